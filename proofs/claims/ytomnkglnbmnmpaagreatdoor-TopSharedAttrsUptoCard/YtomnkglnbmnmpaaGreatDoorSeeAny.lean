/- The functions of the law that show a tree to an eye. -/
import Derived.Test.YtomnkglnbmnmpaaGreatDoorSeeAll
import Derived.WalkKit
import Derived.WalkSpells
import Derived.WalkLawsBesides
import Derived.Deep.RegionLaw
import Derived.Deep.AppendLies
namespace Go.Proofs.YtomnkglnbmnmpaaGreatDoor
open Go.RowKit Go.Vt Go.Proofs
theorem SeeOK.le {P : Program} {e1 e2 : Nat} {tab : Nat → List CT} {n m : Nat} {f : FuncId} {cts : List CT} (h : SeeOK P e1 e2 tab n f cts) (hm : m ≤ n) : SeeOK P e1 e2 tab m f cts := fun mk rm cs F w be oe B b o ns ss at_ hn hp => h mk rm cs F w be oe B b o ns ss at_ (Nat.le_trans hn hm) hp
set_option maxRecDepth 100000 in
set_option maxHeartbeats 400000 in
theorem see_seeSharedMutate_of (n : Nat) (h13 : SeeOK Tryz.prog 3 9 tab n 13 [.sl 107]) (h73 : SeeOK Tryz.prog 3 9 tab n 73 [.int .i64]) : SeeOK Tryz.prog 3 9 tab n 9 [.sl 107, .int .i64, .int .i64, .int .i64] := by
  intro mk rm cs F w be oe B b o ns ss at_ hn h0
  obtain ⟨c0, r0, m0, p0, q0⟩ := SeePre.part (t1 := [.sl 107]) (t2 := [.int .i64, .int .i64, .int .i64]) h0
  have d0 := h13 mk rm c0 F w be oe B b o ns ss at_ (by omega) p0
  have D0 := Lib.hid d0
  clear d0
  go_enter Tryz.func9, Tryz.ntmps9
  go_wp2_with fail
  refine D0.out.mono ?_
  rintro e0 w1 ⟨rfl, ns1, ss1, a1, s1⟩
  obtain ⟨cs1, n1, (p0' : SeePre 3 9 tab [.int .i64, .int .i64, .int .i64] mk rm cs1 F w1 be oe B b (o + 1) ns1 ss1 a1), q0'⟩ := q0 w1 ns1 ss1 a1 s1
  obtain ⟨c1, r1, m1, p1, q1⟩ := SeePre.part (t1 := [.int .i64]) (t2 := [.int .i64, .int .i64]) p0'
  have d1 := h73 mk rm c1 F w1 be oe B b (o + 1) ns1 ss1 a1 (by omega) p1
  have D1 := Lib.hid d1
  clear d1
  go_wp2_with fail
  refine D1.out.mono ?_
  rintro e1 w2 ⟨rfl, ns2, ss2, a2, s2⟩
  obtain ⟨cs2, n2, (p1' : SeePre 3 9 tab [.int .i64, .int .i64] mk rm cs2 F w2 be oe B b (o + 2) ns2 ss2 a2), q1'⟩ := q1 w2 ns2 ss2 a2 s2
  obtain ⟨c2, r2, m2, p2, q2⟩ := SeePre.part (t1 := [.int .i64]) (t2 := [.int .i64]) p1'
  have d2 := h73 mk rm c2 F w2 be oe B b (o + 2) ns2 ss2 a2 (by omega) p2
  have D2 := Lib.hid d2
  clear d2
  go_wp2_with fail
  refine D2.out.mono ?_
  rintro e2 w3 ⟨rfl, ns3, ss3, a3, s3⟩
  obtain ⟨cs3, n3, (p2' : SeePre 3 9 tab [.int .i64] mk rm cs3 F w3 be oe B b (o + 3) ns3 ss3 a3), q2'⟩ := q2 w3 ns3 ss3 a3 s3
  have d3 := h73 mk rm cs3 F w3 be oe B b (o + 3) ns3 ss3 a3 (by omega) p2'
  have D3 := Lib.hid d3
  clear d3
  go_wp2_with fail
  refine D3.out.mono ?_
  rintro e3 w4 ⟨rfl, ns4, ss4, a4, s4⟩
  go_wp2
  go_end0
  exact ⟨rfl, _, _, _, (q0' _ _ _ _ (q1' _ _ _ _ (q2' _ _ _ _ s4)))⟩
set_option maxRecDepth 100000 in
set_option maxHeartbeats 400000 in
theorem see_seeTree_of (n : Nat) (h76 : SeeOK Tryz.prog 3 9 tab n 76 [.sl 107]) : SeeOK Tryz.prog 3 9 tab n 13 [.sl 107] := by
  intro mk rm cs F w be oe B b o ns ss at_ hn h0
  have d0 := h76 mk rm cs F w be oe B b o ns ss at_ (by omega) h0
  have D0 := Lib.hid d0
  clear d0
  go_enter Tryz.func13, Tryz.ntmps13
  go_wp2_with fail
  refine D0.out.mono ?_
  rintro e0 w1 ⟨rfl, ns1, ss1, a1, s1⟩
  go_wp2
  go_end0
  exact ⟨rfl, _, _, _, s1⟩
set_option maxRecDepth 100000 in
set_option maxHeartbeats 400000 in
theorem see_seeSharedAttrs_of (n : Nat) (h13 : SeeOK Tryz.prog 3 9 tab n 13 [.sl 107]) (h73 : SeeOK Tryz.prog 3 9 tab n 73 [.int .i64]) (h79 : SeeOK Tryz.prog 3 9 tab n 79 [.str]) : SeeOK Tryz.prog 3 9 tab n 23 [.sl 107, .int .i64, .str, .str, .str] := by
  intro mk rm cs F w be oe B b o ns ss at_ hn h0
  obtain ⟨c0, r0, m0, p0, q0⟩ := SeePre.part (t1 := [.sl 107]) (t2 := [.int .i64, .str, .str, .str]) h0
  have d0 := h13 mk rm c0 F w be oe B b o ns ss at_ (by omega) p0
  have D0 := Lib.hid d0
  clear d0
  go_enter Tryz.func23, Tryz.ntmps23
  go_wp2_with fail
  refine D0.out.mono ?_
  rintro e0 w1 ⟨rfl, ns1, ss1, a1, s1⟩
  obtain ⟨cs1, n1, (p0' : SeePre 3 9 tab [.int .i64, .str, .str, .str] mk rm cs1 F w1 be oe B b (o + 1) ns1 ss1 a1), q0'⟩ := q0 w1 ns1 ss1 a1 s1
  obtain ⟨c1, r1, m1, p1, q1⟩ := SeePre.part (t1 := [.int .i64]) (t2 := [.str, .str, .str]) p0'
  have d1 := h73 mk rm c1 F w1 be oe B b (o + 1) ns1 ss1 a1 (by omega) p1
  have D1 := Lib.hid d1
  clear d1
  go_wp2_with fail
  refine D1.out.mono ?_
  rintro e1 w2 ⟨rfl, ns2, ss2, a2, s2⟩
  obtain ⟨cs2, n2, (p1' : SeePre 3 9 tab [.str, .str, .str] mk rm cs2 F w2 be oe B b (o + 2) ns2 ss2 a2), q1'⟩ := q1 w2 ns2 ss2 a2 s2
  obtain ⟨c2, r2, m2, p2, q2⟩ := SeePre.part (t1 := [.str]) (t2 := [.str, .str]) p1'
  have d2 := h79 mk rm c2 F w2 be oe B b (o + 2) ns2 ss2 a2 (by omega) p2
  have D2 := Lib.hid d2
  clear d2
  go_wp2_with fail
  refine D2.out.mono ?_
  rintro e2 w3 ⟨rfl, ns3, ss3, a3, s3⟩
  obtain ⟨cs3, n3, (p2' : SeePre 3 9 tab [.str, .str] mk rm cs3 F w3 be oe B b (o + 3) ns3 ss3 a3), q2'⟩ := q2 w3 ns3 ss3 a3 s3
  obtain ⟨c3, r3, m3, p3, q3⟩ := SeePre.part (t1 := [.str]) (t2 := [.str]) p2'
  have d3 := h79 mk rm c3 F w3 be oe B b (o + 3) ns3 ss3 a3 (by omega) p3
  have D3 := Lib.hid d3
  clear d3
  go_wp2_with fail
  refine D3.out.mono ?_
  rintro e3 w4 ⟨rfl, ns4, ss4, a4, s4⟩
  obtain ⟨cs4, n4, (p3' : SeePre 3 9 tab [.str] mk rm cs4 F w4 be oe B b (o + 4) ns4 ss4 a4), q3'⟩ := q3 w4 ns4 ss4 a4 s4
  have d4 := h79 mk rm cs4 F w4 be oe B b (o + 4) ns4 ss4 a4 (by omega) p3'
  have D4 := Lib.hid d4
  clear d4
  go_wp2_with fail
  refine D4.out.mono ?_
  rintro e4 w5 ⟨rfl, ns5, ss5, a5, s5⟩
  go_wp2
  go_end0
  exact ⟨rfl, _, _, _, (q0' _ _ _ _ (q1' _ _ _ _ (q2' _ _ _ _ (q3' _ _ _ _ s5))))⟩
set_option maxRecDepth 100000 in
set_option maxHeartbeats 400000 in
theorem see_strs_of (n : Nat) (h1 : SeeOK Tryz.prog 3 9 tab n 79 (tab 9)) : SeeOK Tryz.prog 3 9 tab (n + 1) 35 [.sl 9] := by
  intro mk rm cs F w be oe B b o ns ss at_ hn h
  obtain ⟨sz, len, cap, rows, rfl⟩ := h.ht.sl1
  obtain ⟨v, hx, hrd⟩ := rd_sl h.rd
  obtain ⟨z1, z2, z3⟩ := one_row rm (C.sl sz len cap rows)
  have hent : ∀ args w, (callFunc 79 args).run Tryz.prog w = .ok (.enter 79 args) w := fun _ _ => rfl
  have hc := all_87 tab rfl n 79 h1 hent mk rm sz len cap rows v F w be oe B ns ss at_ (by rw [z1] at hn; exact hn) (h.sl hrd)
  rw [z1, z2, z3]
  have HC := Lib.hid hc
  clear hc h1 hent z1 z2 z3
  go_enter Tryz.func35, Tryz.ntmps35
  go_wp2_with fail
  refine HC.out.mono ?_
  rintro e w1 ⟨rfl, hp⟩
  go_wp2
  go_end0
  exact ⟨rfl, hp⟩
set_option maxRecDepth 100000 in
set_option maxHeartbeats 400000 in
theorem see_seeSharedOrder_of (n : Nat) (h13 : SeeOK Tryz.prog 3 9 tab n 13 [.sl 107]) (h73 : SeeOK Tryz.prog 3 9 tab n 73 [.int .i64]) : SeeOK Tryz.prog 3 9 tab n 40 [.sl 107, .int .i64, .int .i64] := by
  intro mk rm cs F w be oe B b o ns ss at_ hn h0
  obtain ⟨c0, r0, m0, p0, q0⟩ := SeePre.part (t1 := [.sl 107]) (t2 := [.int .i64, .int .i64]) h0
  have d0 := h13 mk rm c0 F w be oe B b o ns ss at_ (by omega) p0
  have D0 := Lib.hid d0
  clear d0
  go_enter Tryz.func40, Tryz.ntmps40
  go_wp2_with fail
  refine D0.out.mono ?_
  rintro e0 w1 ⟨rfl, ns1, ss1, a1, s1⟩
  obtain ⟨cs1, n1, (p0' : SeePre 3 9 tab [.int .i64, .int .i64] mk rm cs1 F w1 be oe B b (o + 1) ns1 ss1 a1), q0'⟩ := q0 w1 ns1 ss1 a1 s1
  obtain ⟨c1, r1, m1, p1, q1⟩ := SeePre.part (t1 := [.int .i64]) (t2 := [.int .i64]) p0'
  have d1 := h73 mk rm c1 F w1 be oe B b (o + 1) ns1 ss1 a1 (by omega) p1
  have D1 := Lib.hid d1
  clear d1
  go_wp2_with fail
  refine D1.out.mono ?_
  rintro e1 w2 ⟨rfl, ns2, ss2, a2, s2⟩
  obtain ⟨cs2, n2, (p1' : SeePre 3 9 tab [.int .i64] mk rm cs2 F w2 be oe B b (o + 2) ns2 ss2 a2), q1'⟩ := q1 w2 ns2 ss2 a2 s2
  have d2 := h73 mk rm cs2 F w2 be oe B b (o + 2) ns2 ss2 a2 (by omega) p1'
  have D2 := Lib.hid d2
  clear d2
  go_wp2_with fail
  refine D2.out.mono ?_
  rintro e2 w3 ⟨rfl, ns3, ss3, a3, s3⟩
  go_wp2
  go_end0
  exact ⟨rfl, _, _, _, (q0' _ _ _ _ (q1' _ _ _ _ s3))⟩
set_option maxRecDepth 100000 in
set_option maxHeartbeats 400000 in
theorem see_nums_int_of (n : Nat) (h1 : SeeOK Tryz.prog 3 9 tab n 73 (tab 3)) : SeeOK Tryz.prog 3 9 tab (n + 1) 44 [.sl 3] := by
  intro mk rm cs F w be oe B b o ns ss at_ hn h
  obtain ⟨sz, len, cap, rows, rfl⟩ := h.ht.sl1
  obtain ⟨v, hx, hrd⟩ := rd_sl h.rd
  obtain ⟨z1, z2, z3⟩ := one_row rm (C.sl sz len cap rows)
  have hent : ∀ args w, (callFunc 73 args).run Tryz.prog w = .ok (.enter 73 args) w := fun _ _ => rfl
  have hc := all_91 tab rfl n 73 h1 hent mk rm sz len cap rows v F w be oe B ns ss at_ (by rw [z1] at hn; exact hn) (h.sl hrd)
  rw [z1, z2, z3]
  have HC := Lib.hid hc
  clear hc h1 hent z1 z2 z3
  go_enter Tryz.func44, Tryz.ntmps44
  go_wp2_with fail
  refine HC.out.mono ?_
  rintro e w1 ⟨rfl, hp⟩
  go_wp2
  go_end0
  exact ⟨rfl, hp⟩
set_option maxRecDepth 100000 in
set_option maxHeartbeats 400000 in
theorem see_seeSharedLink_of (n : Nat) (h13 : SeeOK Tryz.prog 3 9 tab n 13 [.sl 107]) (h73 : SeeOK Tryz.prog 3 9 tab n 73 [.int .i64]) : SeeOK Tryz.prog 3 9 tab n 58 [.sl 107, .int .i64] := by
  intro mk rm cs F w be oe B b o ns ss at_ hn h0
  obtain ⟨c0, r0, m0, p0, q0⟩ := SeePre.part (t1 := [.sl 107]) (t2 := [.int .i64]) h0
  have d0 := h13 mk rm c0 F w be oe B b o ns ss at_ (by omega) p0
  have D0 := Lib.hid d0
  clear d0
  go_enter Tryz.func58, Tryz.ntmps58
  go_wp2_with fail
  refine D0.out.mono ?_
  rintro e0 w1 ⟨rfl, ns1, ss1, a1, s1⟩
  obtain ⟨cs1, n1, (p0' : SeePre 3 9 tab [.int .i64] mk rm cs1 F w1 be oe B b (o + 1) ns1 ss1 a1), q0'⟩ := q0 w1 ns1 ss1 a1 s1
  have d1 := h73 mk rm cs1 F w1 be oe B b (o + 1) ns1 ss1 a1 (by omega) p0'
  have D1 := Lib.hid d1
  clear d1
  go_wp2_with fail
  refine D1.out.mono ?_
  rintro e1 w2 ⟨rfl, ns2, ss2, a2, s2⟩
  go_wp2
  go_end0
  exact ⟨rfl, _, _, _, (q0' _ _ _ _ s2)⟩
set_option maxRecDepth 100000 in
set_option maxHeartbeats 400000 in
theorem see_seeNodes_of (n : Nat) (h1 : SeeOK Tryz.prog 3 9 tab n 103 (tab 107)) : SeeOK Tryz.prog 3 9 tab (n + 1) 76 [.sl 107] := by
  intro mk rm cs F w be oe B b o ns ss at_ hn h
  obtain ⟨sz, len, cap, rows, rfl⟩ := h.ht.sl1
  obtain ⟨v, hx, hrd⟩ := rd_sl h.rd
  obtain ⟨z1, z2, z3⟩ := one_row rm (C.sl sz len cap rows)
  have hent : ∀ args w, (callFunc 103 args).run Tryz.prog w = .ok (.enter 103 args) w := fun _ _ => rfl
  have hc := all_102 tab rfl n 103 h1 hent mk rm sz len cap rows v F w be oe B ns ss at_ (by rw [z1] at hn; exact hn) (h.sl hrd)
  rw [z1, z2, z3]
  have HC := Lib.hid hc
  clear hc h1 hent z1 z2 z3
  go_enter Tryz.func76, Tryz.ntmps76
  go_wp2_with fail
  refine HC.out.mono ?_
  rintro e w1 ⟨rfl, hp⟩
  go_wp2
  go_end0
  exact ⟨rfl, hp⟩
set_option maxRecDepth 100000 in
set_option maxHeartbeats 400000 in
theorem see_seeNode_of (n : Nat) (h79 : SeeOK Tryz.prog 3 9 tab n 79 [.str]) (h130 : SeeOK Tryz.prog 3 9 tab n 130 [.sl 116]) (h73 : SeeOK Tryz.prog 3 9 tab n 73 [.int .i64]) (h44 : SeeOK Tryz.prog 3 9 tab n 44 [.sl 3]) : SeeOK Tryz.prog 3 9 tab n 103 [.str, .sl 116, .int .i64, .sl 3] := by
  intro mk rm cs F w be oe B b o ns ss at_ hn h0
  obtain ⟨c0, r0, m0, p0, q0⟩ := SeePre.part (t1 := [.str]) (t2 := [.sl 116, .int .i64, .sl 3]) h0
  have d0 := h79 mk rm c0 F w be oe B b o ns ss at_ (by omega) p0
  have D0 := Lib.hid d0
  clear d0
  go_enter Tryz.func103, Tryz.ntmps103
  go_wp2_with fail
  refine D0.out.mono ?_
  rintro e0 w1 ⟨rfl, ns1, ss1, a1, s1⟩
  obtain ⟨cs1, n1, (p0' : SeePre 3 9 tab [.sl 116, .int .i64, .sl 3] mk rm cs1 F w1 be oe B b (o + 1) ns1 ss1 a1), q0'⟩ := q0 w1 ns1 ss1 a1 s1
  obtain ⟨c1, r1, m1, p1, q1⟩ := SeePre.part (t1 := [.sl 116]) (t2 := [.int .i64, .sl 3]) p0'
  have d1 := h130 mk rm c1 F w1 be oe B b (o + 1) ns1 ss1 a1 (by omega) p1
  have D1 := Lib.hid d1
  clear d1
  go_wp2_with fail
  refine D1.out.mono ?_
  rintro e1 w2 ⟨rfl, ns2, ss2, a2, s2⟩
  obtain ⟨cs2, n2, (p1' : SeePre 3 9 tab [.int .i64, .sl 3] mk rm cs2 F w2 be oe B b (o + 2) ns2 ss2 a2), q1'⟩ := q1 w2 ns2 ss2 a2 s2
  obtain ⟨c2, r2, m2, p2, q2⟩ := SeePre.part (t1 := [.int .i64]) (t2 := [.sl 3]) p1'
  have d2 := h73 mk rm c2 F w2 be oe B b (o + 2) ns2 ss2 a2 (by omega) p2
  have D2 := Lib.hid d2
  clear d2
  go_wp2_with fail
  refine D2.out.mono ?_
  rintro e2 w3 ⟨rfl, ns3, ss3, a3, s3⟩
  obtain ⟨cs3, n3, (p2' : SeePre 3 9 tab [.sl 3] mk rm cs3 F w3 be oe B b (o + 3) ns3 ss3 a3), q2'⟩ := q2 w3 ns3 ss3 a3 s3
  have d3 := h44 mk rm cs3 F w3 be oe B b (o + 3) ns3 ss3 a3 (by omega) p2'
  have D3 := Lib.hid d3
  clear d3
  go_wp2_with fail
  refine D3.out.mono ?_
  rintro e3 w4 ⟨rfl, ns4, ss4, a4, s4⟩
  go_wp2
  go_end0
  exact ⟨rfl, _, _, _, (q0' _ _ _ _ (q1' _ _ _ _ (q2' _ _ _ _ s4)))⟩
set_option maxRecDepth 100000 in
set_option maxHeartbeats 400000 in
theorem see_seeAttrs_of (n : Nat) (h1 : SeeOK Tryz.prog 3 9 tab n 165 (tab 116)) : SeeOK Tryz.prog 3 9 tab (n + 1) 130 [.sl 116] := by
  intro mk rm cs F w be oe B b o ns ss at_ hn h
  obtain ⟨sz, len, cap, rows, rfl⟩ := h.ht.sl1
  obtain ⟨v, hx, hrd⟩ := rd_sl h.rd
  obtain ⟨z1, z2, z3⟩ := one_row rm (C.sl sz len cap rows)
  have hent : ∀ args w, (callFunc 165 args).run Tryz.prog w = .ok (.enter 165 args) w := fun _ _ => rfl
  have hc := all_164 tab rfl n 165 h1 hent mk rm sz len cap rows v F w be oe B ns ss at_ (by rw [z1] at hn; exact hn) (h.sl hrd)
  rw [z1, z2, z3]
  have HC := Lib.hid hc
  clear hc h1 hent z1 z2 z3
  go_enter Tryz.func130, Tryz.ntmps130
  go_wp2_with fail
  refine HC.out.mono ?_
  rintro e w1 ⟨rfl, hp⟩
  go_wp2
  go_end0
  exact ⟨rfl, hp⟩
set_option maxRecDepth 100000 in
set_option maxHeartbeats 400000 in
theorem see_seeAttr_of (n : Nat) (h79 : SeeOK Tryz.prog 3 9 tab n 79 [.str]) : SeeOK Tryz.prog 3 9 tab n 165 [.str, .str] := by
  intro mk rm cs F w be oe B b o ns ss at_ hn h0
  obtain ⟨c0, r0, m0, p0, q0⟩ := SeePre.part (t1 := [.str]) (t2 := [.str]) h0
  have d0 := h79 mk rm c0 F w be oe B b o ns ss at_ (by omega) p0
  have D0 := Lib.hid d0
  clear d0
  go_enter Tryz.func165, Tryz.ntmps165
  go_wp2_with fail
  refine D0.out.mono ?_
  rintro e0 w1 ⟨rfl, ns1, ss1, a1, s1⟩
  obtain ⟨cs1, n1, (p0' : SeePre 3 9 tab [.str] mk rm cs1 F w1 be oe B b (o + 1) ns1 ss1 a1), q0'⟩ := q0 w1 ns1 ss1 a1 s1
  have d1 := h79 mk rm cs1 F w1 be oe B b (o + 1) ns1 ss1 a1 (by omega) p0'
  have D1 := Lib.hid d1
  clear d1
  go_wp2_with fail
  refine D1.out.mono ?_
  rintro e1 w2 ⟨rfl, ns2, ss2, a2, s2⟩
  go_wp2
  go_end0
  exact ⟨rfl, _, _, _, (q0' _ _ _ _ s2)⟩
theorem see_strs : ∀ n, SeeOK Tryz.prog 3 9 tab n 35 [.sl 9]
  | 0 => fun _ _ cs _ _ _ _ _ _ _ _ _ _ hn hp => by obtain ⟨sz, len, cap, rows, rfl⟩ := hp.ht.sl1; simp [nodesRow, nodes] at hn
  | n + 1 => see_strs_of n (str_ok tab n)
theorem see_nums_int : ∀ n, SeeOK Tryz.prog 3 9 tab n 44 [.sl 3]
  | 0 => fun _ _ cs _ _ _ _ _ _ _ _ _ _ hn hp => by obtain ⟨sz, len, cap, rows, rfl⟩ := hp.ht.sl1; simp [nodesRow, nodes] at hn
  | n + 1 => see_nums_int_of n (num_int tab n)
theorem see_seeAttr (n : Nat) : SeeOK Tryz.prog 3 9 tab n 165 [.str, .str] := see_seeAttr_of n (str_ok tab n)
theorem see_seeAttrs : ∀ n, SeeOK Tryz.prog 3 9 tab n 130 [.sl 116]
  | 0 => fun _ _ cs _ _ _ _ _ _ _ _ _ _ hn hp => by obtain ⟨sz, len, cap, rows, rfl⟩ := hp.ht.sl1; simp [nodesRow, nodes] at hn
  | n + 1 => see_seeAttrs_of n (see_seeAttr n)
theorem see_seeNode (n : Nat) : SeeOK Tryz.prog 3 9 tab n 103 [.str, .sl 116, .int .i64, .sl 3] := see_seeNode_of n (str_ok tab n) (see_seeAttrs n) (num_int tab n) (see_nums_int n)
theorem see_seeNodes : ∀ n, SeeOK Tryz.prog 3 9 tab n 76 [.sl 107]
  | 0 => fun _ _ cs _ _ _ _ _ _ _ _ _ _ hn hp => by obtain ⟨sz, len, cap, rows, rfl⟩ := hp.ht.sl1; simp [nodesRow, nodes] at hn
  | n + 1 => see_seeNodes_of n (see_seeNode n)
theorem see_seeTree (n : Nat) : SeeOK Tryz.prog 3 9 tab n 13 [.sl 107] := see_seeTree_of n (see_seeNodes n)
theorem see_seeSharedMutate (n : Nat) : SeeOK Tryz.prog 3 9 tab n 9 [.sl 107, .int .i64, .int .i64, .int .i64] := see_seeSharedMutate_of n (see_seeTree n) (num_int tab n)
theorem see_seeSharedAttrs (n : Nat) : SeeOK Tryz.prog 3 9 tab n 23 [.sl 107, .int .i64, .str, .str, .str] := see_seeSharedAttrs_of n (see_seeTree n) (num_int tab n) (str_ok tab n)
theorem see_seeSharedOrder (n : Nat) : SeeOK Tryz.prog 3 9 tab n 40 [.sl 107, .int .i64, .int .i64] := see_seeSharedOrder_of n (see_seeTree n) (num_int tab n)
theorem see_seeSharedLink (n : Nat) : SeeOK Tryz.prog 3 9 tab n 58 [.sl 107, .int .i64] := see_seeSharedLink_of n (see_seeTree n) (num_int tab n)
end Go.Proofs.YtomnkglnbmnmpaaGreatDoor
