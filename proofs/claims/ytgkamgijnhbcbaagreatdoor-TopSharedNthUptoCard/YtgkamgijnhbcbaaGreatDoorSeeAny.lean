/- The functions of the law that show a tree to an eye. -/
import Derived.Test.YtgkamgijnhbcbaaGreatDoorSeeAll
import Derived.Test.YtgkamgijnhbcbaaGreatDoorSeeYes
import Derived.WalkKit
import Derived.WalkSpells
import Derived.WalkLawsBesides
import Derived.Deep.RegionLaw
import Derived.Deep.AppendLies
namespace Go.Proofs.YtgkamgijnhbcbaaGreatDoor
open Go.RowKit Go.Vt Go.Proofs
theorem SeeOK.le {P : Program} {e1 e2 : Nat} {tab : Nat → List CT} {n m : Nat} {f : FuncId} {cts : List CT} (h : SeeOK P e1 e2 tab n f cts) (hm : m ≤ n) : SeeOK P e1 e2 tab m f cts := fun mk rm cs F w be oe B b o ns ss at_ hn hp => h mk rm cs F w be oe B b o ns ss at_ (Nat.le_trans hn hm) hp
set_option maxRecDepth 100000 in
set_option maxHeartbeats 400000 in
theorem see_seeSharedHas_of (n : Nat) (h50 : SeeOK Tryz.prog 3 9 tab n 50 [.sl 132]) (h51 : SeeOK Tryz.prog 3 9 tab n 51 [.int .i64]) (h52 : SeeOK Tryz.prog 3 9 tab n 52 [.int .u8]) (h53 : SeeOK Tryz.prog 3 9 tab n 53 [.sl 5]) (h54 : SeeOK Tryz.prog 3 9 tab n 54 [.sl 45]) : SeeOK Tryz.prog 3 9 tab n 8 [.sl 132, .int .i64, .int .u8, .sl 5, .sl 45] := by
  intro mk rm cs F w be oe B b o ns ss at_ hn h0
  obtain ⟨c0, r0, m0, p0, q0⟩ := SeePre.part (t1 := [.sl 132]) (t2 := [.int .i64, .int .u8, .sl 5, .sl 45]) h0
  have d0 := h50 mk rm c0 F w be oe B b o ns ss at_ (by omega) p0
  have D0 := Lib.hid d0
  clear d0
  go_enter Tryz.func8, Tryz.ntmps8
  go_wp2_with fail
  refine D0.out.mono ?_
  rintro e0 w1 ⟨rfl, ns1, ss1, a1, s1⟩
  obtain ⟨cs1, n1, (p0' : SeePre 3 9 tab [.int .i64, .int .u8, .sl 5, .sl 45] mk rm cs1 F w1 be oe B b (o + 1) ns1 ss1 a1), q0'⟩ := q0 w1 ns1 ss1 a1 s1
  obtain ⟨c1, r1, m1, p1, q1⟩ := SeePre.part (t1 := [.int .i64]) (t2 := [.int .u8, .sl 5, .sl 45]) p0'
  have d1 := h51 mk rm c1 F w1 be oe B b (o + 1) ns1 ss1 a1 (by omega) p1
  have D1 := Lib.hid d1
  clear d1
  go_wp2_with fail
  refine D1.out.mono ?_
  rintro e1 w2 ⟨rfl, ns2, ss2, a2, s2⟩
  obtain ⟨cs2, n2, (p1' : SeePre 3 9 tab [.int .u8, .sl 5, .sl 45] mk rm cs2 F w2 be oe B b (o + 2) ns2 ss2 a2), q1'⟩ := q1 w2 ns2 ss2 a2 s2
  obtain ⟨c2, r2, m2, p2, q2⟩ := SeePre.part (t1 := [.int .u8]) (t2 := [.sl 5, .sl 45]) p1'
  have d2 := h52 mk rm c2 F w2 be oe B b (o + 2) ns2 ss2 a2 (by omega) p2
  have D2 := Lib.hid d2
  clear d2
  go_wp2_with fail
  refine D2.out.mono ?_
  rintro e2 w3 ⟨rfl, ns3, ss3, a3, s3⟩
  obtain ⟨cs3, n3, (p2' : SeePre 3 9 tab [.sl 5, .sl 45] mk rm cs3 F w3 be oe B b (o + 3) ns3 ss3 a3), q2'⟩ := q2 w3 ns3 ss3 a3 s3
  obtain ⟨c3, r3, m3, p3, q3⟩ := SeePre.part (t1 := [.sl 5]) (t2 := [.sl 45]) p2'
  have d3 := h53 mk rm c3 F w3 be oe B b (o + 3) ns3 ss3 a3 (by omega) p3
  have D3 := Lib.hid d3
  clear d3
  go_wp2_with fail
  refine D3.out.mono ?_
  rintro e3 w4 ⟨rfl, ns4, ss4, a4, s4⟩
  obtain ⟨cs4, n4, (p3' : SeePre 3 9 tab [.sl 45] mk rm cs4 F w4 be oe B b (o + 4) ns4 ss4 a4), q3'⟩ := q3 w4 ns4 ss4 a4 s4
  have d4 := h54 mk rm cs4 F w4 be oe B b (o + 4) ns4 ss4 a4 (by omega) p3'
  have D4 := Lib.hid d4
  clear d4
  go_wp2_with fail
  refine D4.out.mono ?_
  rintro e4 w5 ⟨rfl, ns5, ss5, a5, s5⟩
  go_wp2
  go_end0
  exact ⟨rfl, _, _, _, (q0' _ _ _ _ (q1' _ _ _ _ (q2' _ _ _ _ (q3' _ _ _ _ s5))))⟩
set_option maxRecDepth 100000 in
set_option maxHeartbeats 400000 in
theorem see_nums_int_of (n : Nat) (h1 : SeeOK Tryz.prog 3 9 tab n 51 (tab 3)) : SeeOK Tryz.prog 3 9 tab (n + 1) 12 [.sl 3] := by
  intro mk rm cs F w be oe B b o ns ss at_ hn h
  obtain ⟨sz, len, cap, rows, rfl⟩ := h.ht.sl1
  obtain ⟨v, hx, hrd⟩ := rd_sl h.rd
  obtain ⟨z1, z2, z3⟩ := one_row rm (C.sl sz len cap rows)
  have hent : ∀ args w, (callFunc 51 args).run Tryz.prog w = .ok (.enter 51 args) w := fun _ _ => rfl
  have hc := all_58 tab rfl n 51 h1 hent mk rm sz len cap rows v F w be oe B ns ss at_ (by rw [z1] at hn; exact hn) (h.sl hrd hx)
  rw [z1, z2, z3]
  have HC := Lib.hid hc
  clear hc h1 hent z1 z2 z3
  go_enter Tryz.func12, Tryz.ntmps12
  go_wp2_with fail
  refine HC.out.mono ?_
  rintro e w1 ⟨rfl, hp⟩
  go_wp2
  go_end0
  exact ⟨rfl, hp⟩
set_option maxRecDepth 100000 in
set_option maxHeartbeats 400000 in
theorem see_yess_of (n : Nat) (h1 : SeeOK Tryz.prog 3 9 tab n 61 (tab 4)) : SeeOK Tryz.prog 3 9 tab (n + 1) 18 [.sl 4] := by
  intro mk rm cs F w be oe B b o ns ss at_ hn h
  obtain ⟨sz, len, cap, rows, rfl⟩ := h.ht.sl1
  obtain ⟨v, hx, hrd⟩ := rd_sl h.rd
  obtain ⟨z1, z2, z3⟩ := one_row rm (C.sl sz len cap rows)
  have hent : ∀ args w, (callFunc 61 args).run Tryz.prog w = .ok (.enter 61 args) w := fun _ _ => rfl
  have hc := all_60 tab rfl n 61 h1 hent mk rm sz len cap rows v F w be oe B ns ss at_ (by rw [z1] at hn; exact hn) (h.sl hrd hx)
  rw [z1, z2, z3]
  have HC := Lib.hid hc
  clear hc h1 hent z1 z2 z3
  go_enter Tryz.func18, Tryz.ntmps18
  go_wp2_with fail
  refine HC.out.mono ?_
  rintro e w1 ⟨rfl, hp⟩
  go_wp2
  go_end0
  exact ⟨rfl, hp⟩
set_option maxRecDepth 100000 in
set_option maxHeartbeats 400000 in
theorem see_seeSharedNth_of (n : Nat) (h50 : SeeOK Tryz.prog 3 9 tab n 50 [.sl 132]) (h51 : SeeOK Tryz.prog 3 9 tab n 51 [.int .i64]) (h61 : SeeOK Tryz.prog 3 9 tab n 61 [.bool]) (h18 : SeeOK Tryz.prog 3 9 tab n 18 [.sl 4]) (h64 : SeeOK Tryz.prog 3 9 tab n 64 [.int .i64, .int .i64]) : SeeOK Tryz.prog 3 9 tab n 22 [.sl 132, .int .i64, .bool, .sl 4, .int .i64, .int .i64] := by
  intro mk rm cs F w be oe B b o ns ss at_ hn h0
  obtain ⟨c0, r0, m0, p0, q0⟩ := SeePre.part (t1 := [.sl 132]) (t2 := [.int .i64, .bool, .sl 4, .int .i64, .int .i64]) h0
  have d0 := h50 mk rm c0 F w be oe B b o ns ss at_ (by omega) p0
  have D0 := Lib.hid d0
  clear d0
  go_enter Tryz.func22, Tryz.ntmps22
  go_wp2_with fail
  refine D0.out.mono ?_
  rintro e0 w1 ⟨rfl, ns1, ss1, a1, s1⟩
  obtain ⟨cs1, n1, (p0' : SeePre 3 9 tab [.int .i64, .bool, .sl 4, .int .i64, .int .i64] mk rm cs1 F w1 be oe B b (o + 1) ns1 ss1 a1), q0'⟩ := q0 w1 ns1 ss1 a1 s1
  obtain ⟨c1, r1, m1, p1, q1⟩ := SeePre.part (t1 := [.int .i64]) (t2 := [.bool, .sl 4, .int .i64, .int .i64]) p0'
  have d1 := h51 mk rm c1 F w1 be oe B b (o + 1) ns1 ss1 a1 (by omega) p1
  have D1 := Lib.hid d1
  clear d1
  go_wp2_with fail
  refine D1.out.mono ?_
  rintro e1 w2 ⟨rfl, ns2, ss2, a2, s2⟩
  obtain ⟨cs2, n2, (p1' : SeePre 3 9 tab [.bool, .sl 4, .int .i64, .int .i64] mk rm cs2 F w2 be oe B b (o + 2) ns2 ss2 a2), q1'⟩ := q1 w2 ns2 ss2 a2 s2
  obtain ⟨c2, r2, m2, p2, q2⟩ := SeePre.part (t1 := [.bool]) (t2 := [.sl 4, .int .i64, .int .i64]) p1'
  have d2 := h61 mk rm c2 F w2 be oe B b (o + 2) ns2 ss2 a2 (by omega) p2
  have D2 := Lib.hid d2
  clear d2
  go_wp2_with fail
  refine D2.out.mono ?_
  rintro e2 w3 ⟨rfl, ns3, ss3, a3, s3⟩
  obtain ⟨cs3, n3, (p2' : SeePre 3 9 tab [.sl 4, .int .i64, .int .i64] mk rm cs3 F w3 be oe B b (o + 3) ns3 ss3 a3), q2'⟩ := q2 w3 ns3 ss3 a3 s3
  obtain ⟨c3, r3, m3, p3, q3⟩ := SeePre.part (t1 := [.sl 4]) (t2 := [.int .i64, .int .i64]) p2'
  have d3 := h18 mk rm c3 F w3 be oe B b (o + 3) ns3 ss3 a3 (by omega) p3
  have D3 := Lib.hid d3
  clear d3
  go_wp2_with fail
  refine D3.out.mono ?_
  rintro e3 w4 ⟨rfl, ns4, ss4, a4, s4⟩
  obtain ⟨cs4, n4, (p3' : SeePre 3 9 tab [.int .i64, .int .i64] mk rm cs4 F w4 be oe B b (o + 4) ns4 ss4 a4), q3'⟩ := q3 w4 ns4 ss4 a4 s4
  have d4 := h64 mk rm cs4 F w4 be oe B b (o + 4) ns4 ss4 a4 (by omega) p3'
  have D4 := Lib.hid d4
  clear d4
  go_wp2_with fail
  refine D4.out.mono ?_
  rintro e4 w5 ⟨rfl, ns5, ss5, a5, s5⟩
  go_wp2
  go_end0
  exact ⟨rfl, _, _, _, (q0' _ _ _ _ (q1' _ _ _ _ (q2' _ _ _ _ (q3' _ _ _ _ s5))))⟩
set_option maxRecDepth 100000 in
set_option maxHeartbeats 400000 in
theorem see_seeSharedComb_of (n : Nat) (h50 : SeeOK Tryz.prog 3 9 tab n 50 [.sl 132]) (h53 : SeeOK Tryz.prog 3 9 tab n 53 [.sl 5]) (h54 : SeeOK Tryz.prog 3 9 tab n 54 [.sl 45]) (h51 : SeeOK Tryz.prog 3 9 tab n 51 [.int .i64]) : SeeOK Tryz.prog 3 9 tab n 32 [.sl 132, .sl 5, .sl 45, .int .i64] := by
  intro mk rm cs F w be oe B b o ns ss at_ hn h0
  obtain ⟨c0, r0, m0, p0, q0⟩ := SeePre.part (t1 := [.sl 132]) (t2 := [.sl 5, .sl 45, .int .i64]) h0
  have d0 := h50 mk rm c0 F w be oe B b o ns ss at_ (by omega) p0
  have D0 := Lib.hid d0
  clear d0
  go_enter Tryz.func32, Tryz.ntmps32
  go_wp2_with fail
  refine D0.out.mono ?_
  rintro e0 w1 ⟨rfl, ns1, ss1, a1, s1⟩
  obtain ⟨cs1, n1, (p0' : SeePre 3 9 tab [.sl 5, .sl 45, .int .i64] mk rm cs1 F w1 be oe B b (o + 1) ns1 ss1 a1), q0'⟩ := q0 w1 ns1 ss1 a1 s1
  obtain ⟨c1, r1, m1, p1, q1⟩ := SeePre.part (t1 := [.sl 5]) (t2 := [.sl 45, .int .i64]) p0'
  have d1 := h53 mk rm c1 F w1 be oe B b (o + 1) ns1 ss1 a1 (by omega) p1
  have D1 := Lib.hid d1
  clear d1
  go_wp2_with fail
  refine D1.out.mono ?_
  rintro e1 w2 ⟨rfl, ns2, ss2, a2, s2⟩
  obtain ⟨cs2, n2, (p1' : SeePre 3 9 tab [.sl 45, .int .i64] mk rm cs2 F w2 be oe B b (o + 2) ns2 ss2 a2), q1'⟩ := q1 w2 ns2 ss2 a2 s2
  obtain ⟨c2, r2, m2, p2, q2⟩ := SeePre.part (t1 := [.sl 45]) (t2 := [.int .i64]) p1'
  have d2 := h54 mk rm c2 F w2 be oe B b (o + 2) ns2 ss2 a2 (by omega) p2
  have D2 := Lib.hid d2
  clear d2
  go_wp2_with fail
  refine D2.out.mono ?_
  rintro e2 w3 ⟨rfl, ns3, ss3, a3, s3⟩
  obtain ⟨cs3, n3, (p2' : SeePre 3 9 tab [.int .i64] mk rm cs3 F w3 be oe B b (o + 3) ns3 ss3 a3), q2'⟩ := q2 w3 ns3 ss3 a3 s3
  have d3 := h51 mk rm cs3 F w3 be oe B b (o + 3) ns3 ss3 a3 (by omega) p2'
  have D3 := Lib.hid d3
  clear d3
  go_wp2_with fail
  refine D3.out.mono ?_
  rintro e3 w4 ⟨rfl, ns4, ss4, a4, s4⟩
  go_wp2
  go_end0
  exact ⟨rfl, _, _, _, (q0' _ _ _ _ (q1' _ _ _ _ (q2' _ _ _ _ s4)))⟩
set_option maxRecDepth 100000 in
set_option maxHeartbeats 400000 in
theorem see_seeTree_of (n : Nat) (h78 : SeeOK Tryz.prog 3 9 tab n 78 [.sl 132]) : SeeOK Tryz.prog 3 9 tab n 50 [.sl 132] := by
  intro mk rm cs F w be oe B b o ns ss at_ hn h0
  have d0 := h78 mk rm cs F w be oe B b o ns ss at_ (by omega) h0
  have D0 := Lib.hid d0
  clear d0
  go_enter Tryz.func50, Tryz.ntmps50
  go_wp2_with fail
  refine D0.out.mono ?_
  rintro e0 w1 ⟨rfl, ns1, ss1, a1, s1⟩
  go_wp2
  go_end0
  exact ⟨rfl, _, _, _, s1⟩
set_option maxRecDepth 100000 in
set_option maxHeartbeats 400000 in
theorem see_nums_uint8_of (n : Nat) (h1 : SeeOK Tryz.prog 3 9 tab n 52 (tab 5)) : SeeOK Tryz.prog 3 9 tab (n + 1) 53 [.sl 5] := by
  intro mk rm cs F w be oe B b o ns ss at_ hn h
  obtain ⟨sz, len, cap, rows, rfl⟩ := h.ht.sl1
  obtain ⟨v, hx, hrd⟩ := rd_sl h.rd
  obtain ⟨z1, z2, z3⟩ := one_row rm (C.sl sz len cap rows)
  have hent : ∀ args w, (callFunc 52 args).run Tryz.prog w = .ok (.enter 52 args) w := fun _ _ => rfl
  have hc := all_79 tab rfl n 52 h1 hent mk rm sz len cap rows v F w be oe B ns ss at_ (by rw [z1] at hn; exact hn) (h.sl hrd hx)
  rw [z1, z2, z3]
  have HC := Lib.hid hc
  clear hc h1 hent z1 z2 z3
  go_enter Tryz.func53, Tryz.ntmps53
  go_wp2_with fail
  refine HC.out.mono ?_
  rintro e w1 ⟨rfl, hp⟩
  go_wp2
  go_end0
  exact ⟨rfl, hp⟩
set_option maxRecDepth 100000 in
set_option maxHeartbeats 400000 in
theorem see_seeBoolses_of (n : Nat) (h1 : SeeOK Tryz.prog 3 9 tab n 18 (tab 45)) : SeeOK Tryz.prog 3 9 tab (n + 1) 54 [.sl 45] := by
  intro mk rm cs F w be oe B b o ns ss at_ hn h
  obtain ⟨sz, len, cap, rows, rfl⟩ := h.ht.sl1
  obtain ⟨v, hx, hrd⟩ := rd_sl h.rd
  obtain ⟨z1, z2, z3⟩ := one_row rm (C.sl sz len cap rows)
  have hent : ∀ args w, (callFunc 18 args).run Tryz.prog w = .ok (.enter 18 args) w := fun _ _ => rfl
  have hc := all_80 tab rfl n 18 h1 hent mk rm sz len cap rows v F w be oe B ns ss at_ (by rw [z1] at hn; exact hn) (h.sl hrd hx)
  rw [z1, z2, z3]
  have HC := Lib.hid hc
  clear hc h1 hent z1 z2 z3
  go_enter Tryz.func54, Tryz.ntmps54
  go_wp2_with fail
  refine HC.out.mono ?_
  rintro e w1 ⟨rfl, hp⟩
  go_wp2
  go_end0
  exact ⟨rfl, hp⟩
set_option maxRecDepth 100000 in
set_option maxHeartbeats 400000 in
theorem see_seeAnb_of (n : Nat) (h93 : SeeOK Tryz.prog 3 9 tab n 93 [.int .i64]) : SeeOK Tryz.prog 3 9 tab n 64 [.int .i64, .int .i64] := by
  intro mk rm cs F w be oe B b o ns ss at_ hn h0
  obtain ⟨c0, r0, m0, p0, q0⟩ := SeePre.part (t1 := [.int .i64]) (t2 := [.int .i64]) h0
  have d0 := h93 mk rm c0 F w be oe B b o ns ss at_ (by omega) p0
  have D0 := Lib.hid d0
  clear d0
  go_enter Tryz.func64, Tryz.ntmps64
  go_wp2_with fail
  refine D0.out.mono ?_
  rintro e0 w1 ⟨rfl, ns1, ss1, a1, s1⟩
  obtain ⟨cs1, n1, (p0' : SeePre 3 9 tab [.int .i64] mk rm cs1 F w1 be oe B b (o + 1) ns1 ss1 a1), q0'⟩ := q0 w1 ns1 ss1 a1 s1
  have d1 := h93 mk rm cs1 F w1 be oe B b (o + 1) ns1 ss1 a1 (by omega) p0'
  have D1 := Lib.hid d1
  clear d1
  go_wp2_with fail
  refine D1.out.mono ?_
  rintro e1 w2 ⟨rfl, ns2, ss2, a2, s2⟩
  go_wp2
  go_end0
  exact ⟨rfl, _, _, _, (q0' _ _ _ _ s2)⟩
set_option maxRecDepth 100000 in
set_option maxHeartbeats 400000 in
theorem see_seeNodes_of (n : Nat) (h1 : SeeOK Tryz.prog 3 9 tab n 106 (tab 132)) : SeeOK Tryz.prog 3 9 tab (n + 1) 78 [.sl 132] := by
  intro mk rm cs F w be oe B b o ns ss at_ hn h
  obtain ⟨sz, len, cap, rows, rfl⟩ := h.ht.sl1
  obtain ⟨v, hx, hrd⟩ := rd_sl h.rd
  obtain ⟨z1, z2, z3⟩ := one_row rm (C.sl sz len cap rows)
  have hent : ∀ args w, (callFunc 106 args).run Tryz.prog w = .ok (.enter 106 args) w := fun _ _ => rfl
  have hc := all_105 tab rfl n 106 h1 hent mk rm sz len cap rows v F w be oe B ns ss at_ (by rw [z1] at hn; exact hn) (h.sl hrd hx)
  rw [z1, z2, z3]
  have HC := Lib.hid hc
  clear hc h1 hent z1 z2 z3
  go_enter Tryz.func78, Tryz.ntmps78
  go_wp2_with fail
  refine HC.out.mono ?_
  rintro e w1 ⟨rfl, hp⟩
  go_wp2
  go_end0
  exact ⟨rfl, hp⟩
set_option maxRecDepth 100000 in
set_option maxHeartbeats 400000 in
theorem see_seeNode_of (n : Nat) (h140 : SeeOK Tryz.prog 3 9 tab n 140 [.str]) (h141 : SeeOK Tryz.prog 3 9 tab n 141 [.sl 201]) (h51 : SeeOK Tryz.prog 3 9 tab n 51 [.int .i64]) (h12 : SeeOK Tryz.prog 3 9 tab n 12 [.sl 3]) : SeeOK Tryz.prog 3 9 tab n 106 [.str, .sl 201, .int .i64, .sl 3] := by
  intro mk rm cs F w be oe B b o ns ss at_ hn h0
  obtain ⟨c0, r0, m0, p0, q0⟩ := SeePre.part (t1 := [.str]) (t2 := [.sl 201, .int .i64, .sl 3]) h0
  have d0 := h140 mk rm c0 F w be oe B b o ns ss at_ (by omega) p0
  have D0 := Lib.hid d0
  clear d0
  go_enter Tryz.func106, Tryz.ntmps106
  go_wp2_with fail
  refine D0.out.mono ?_
  rintro e0 w1 ⟨rfl, ns1, ss1, a1, s1⟩
  obtain ⟨cs1, n1, (p0' : SeePre 3 9 tab [.sl 201, .int .i64, .sl 3] mk rm cs1 F w1 be oe B b (o + 1) ns1 ss1 a1), q0'⟩ := q0 w1 ns1 ss1 a1 s1
  obtain ⟨c1, r1, m1, p1, q1⟩ := SeePre.part (t1 := [.sl 201]) (t2 := [.int .i64, .sl 3]) p0'
  have d1 := h141 mk rm c1 F w1 be oe B b (o + 1) ns1 ss1 a1 (by omega) p1
  have D1 := Lib.hid d1
  clear d1
  go_wp2_with fail
  refine D1.out.mono ?_
  rintro e1 w2 ⟨rfl, ns2, ss2, a2, s2⟩
  obtain ⟨cs2, n2, (p1' : SeePre 3 9 tab [.int .i64, .sl 3] mk rm cs2 F w2 be oe B b (o + 2) ns2 ss2 a2), q1'⟩ := q1 w2 ns2 ss2 a2 s2
  obtain ⟨c2, r2, m2, p2, q2⟩ := SeePre.part (t1 := [.int .i64]) (t2 := [.sl 3]) p1'
  have d2 := h51 mk rm c2 F w2 be oe B b (o + 2) ns2 ss2 a2 (by omega) p2
  have D2 := Lib.hid d2
  clear d2
  go_wp2_with fail
  refine D2.out.mono ?_
  rintro e2 w3 ⟨rfl, ns3, ss3, a3, s3⟩
  obtain ⟨cs3, n3, (p2' : SeePre 3 9 tab [.sl 3] mk rm cs3 F w3 be oe B b (o + 3) ns3 ss3 a3), q2'⟩ := q2 w3 ns3 ss3 a3 s3
  have d3 := h12 mk rm cs3 F w3 be oe B b (o + 3) ns3 ss3 a3 (by omega) p2'
  have D3 := Lib.hid d3
  clear d3
  go_wp2_with fail
  refine D3.out.mono ?_
  rintro e3 w4 ⟨rfl, ns4, ss4, a4, s4⟩
  go_wp2
  go_end0
  exact ⟨rfl, _, _, _, (q0' _ _ _ _ (q1' _ _ _ _ (q2' _ _ _ _ s4)))⟩
set_option maxRecDepth 100000 in
set_option maxHeartbeats 400000 in
theorem see_seeAttrs_of (n : Nat) (h1 : SeeOK Tryz.prog 3 9 tab n 177 (tab 201)) : SeeOK Tryz.prog 3 9 tab (n + 1) 141 [.sl 201] := by
  intro mk rm cs F w be oe B b o ns ss at_ hn h
  obtain ⟨sz, len, cap, rows, rfl⟩ := h.ht.sl1
  obtain ⟨v, hx, hrd⟩ := rd_sl h.rd
  obtain ⟨z1, z2, z3⟩ := one_row rm (C.sl sz len cap rows)
  have hent : ∀ args w, (callFunc 177 args).run Tryz.prog w = .ok (.enter 177 args) w := fun _ _ => rfl
  have hc := all_176 tab rfl n 177 h1 hent mk rm sz len cap rows v F w be oe B ns ss at_ (by rw [z1] at hn; exact hn) (h.sl hrd hx)
  rw [z1, z2, z3]
  have HC := Lib.hid hc
  clear hc h1 hent z1 z2 z3
  go_enter Tryz.func141, Tryz.ntmps141
  go_wp2_with fail
  refine HC.out.mono ?_
  rintro e w1 ⟨rfl, hp⟩
  go_wp2
  go_end0
  exact ⟨rfl, hp⟩
set_option maxRecDepth 100000 in
set_option maxHeartbeats 400000 in
theorem see_seeAttr_of (n : Nat) (h140 : SeeOK Tryz.prog 3 9 tab n 140 [.str]) : SeeOK Tryz.prog 3 9 tab n 177 [.str, .str] := by
  intro mk rm cs F w be oe B b o ns ss at_ hn h0
  obtain ⟨c0, r0, m0, p0, q0⟩ := SeePre.part (t1 := [.str]) (t2 := [.str]) h0
  have d0 := h140 mk rm c0 F w be oe B b o ns ss at_ (by omega) p0
  have D0 := Lib.hid d0
  clear d0
  go_enter Tryz.func177, Tryz.ntmps177
  go_wp2_with fail
  refine D0.out.mono ?_
  rintro e0 w1 ⟨rfl, ns1, ss1, a1, s1⟩
  obtain ⟨cs1, n1, (p0' : SeePre 3 9 tab [.str] mk rm cs1 F w1 be oe B b (o + 1) ns1 ss1 a1), q0'⟩ := q0 w1 ns1 ss1 a1 s1
  have d1 := h140 mk rm cs1 F w1 be oe B b (o + 1) ns1 ss1 a1 (by omega) p0'
  have D1 := Lib.hid d1
  clear d1
  go_wp2_with fail
  refine D1.out.mono ?_
  rintro e1 w2 ⟨rfl, ns2, ss2, a2, s2⟩
  go_wp2
  go_end0
  exact ⟨rfl, _, _, _, (q0' _ _ _ _ s2)⟩
theorem see_nums_int : ∀ n, SeeOK Tryz.prog 3 9 tab n 12 [.sl 3]
  | 0 => fun _ _ cs _ _ _ _ _ _ _ _ _ _ hn hp => by obtain ⟨sz, len, cap, rows, rfl⟩ := hp.ht.sl1; simp [nodesRow, nodes] at hn
  | n + 1 => see_nums_int_of n (num_int tab n)
theorem see_yess : ∀ n, SeeOK Tryz.prog 3 9 tab n 18 [.sl 4]
  | 0 => fun _ _ cs _ _ _ _ _ _ _ _ _ _ hn hp => by obtain ⟨sz, len, cap, rows, rfl⟩ := hp.ht.sl1; simp [nodesRow, nodes] at hn
  | n + 1 => see_yess_of n (yes_ok tab n)
theorem see_nums_uint8 : ∀ n, SeeOK Tryz.prog 3 9 tab n 53 [.sl 5]
  | 0 => fun _ _ cs _ _ _ _ _ _ _ _ _ _ hn hp => by obtain ⟨sz, len, cap, rows, rfl⟩ := hp.ht.sl1; simp [nodesRow, nodes] at hn
  | n + 1 => see_nums_uint8_of n (num_uint8 tab n)
theorem see_seeAnb (n : Nat) : SeeOK Tryz.prog 3 9 tab n 64 [.int .i64, .int .i64] := see_seeAnb_of n (num_int64 tab n)
theorem see_seeAttr (n : Nat) : SeeOK Tryz.prog 3 9 tab n 177 [.str, .str] := see_seeAttr_of n (str_ok tab n)
theorem see_seeBoolses : ∀ n, SeeOK Tryz.prog 3 9 tab n 54 [.sl 45]
  | 0 => fun _ _ cs _ _ _ _ _ _ _ _ _ _ hn hp => by obtain ⟨sz, len, cap, rows, rfl⟩ := hp.ht.sl1; simp [nodesRow, nodes] at hn
  | n + 1 => see_seeBoolses_of n (see_yess n)
theorem see_seeAttrs : ∀ n, SeeOK Tryz.prog 3 9 tab n 141 [.sl 201]
  | 0 => fun _ _ cs _ _ _ _ _ _ _ _ _ _ hn hp => by obtain ⟨sz, len, cap, rows, rfl⟩ := hp.ht.sl1; simp [nodesRow, nodes] at hn
  | n + 1 => see_seeAttrs_of n (see_seeAttr n)
theorem see_seeNode (n : Nat) : SeeOK Tryz.prog 3 9 tab n 106 [.str, .sl 201, .int .i64, .sl 3] := see_seeNode_of n (str_ok tab n) (see_seeAttrs n) (num_int tab n) (see_nums_int n)
theorem see_seeNodes : ∀ n, SeeOK Tryz.prog 3 9 tab n 78 [.sl 132]
  | 0 => fun _ _ cs _ _ _ _ _ _ _ _ _ _ hn hp => by obtain ⟨sz, len, cap, rows, rfl⟩ := hp.ht.sl1; simp [nodesRow, nodes] at hn
  | n + 1 => see_seeNodes_of n (see_seeNode n)
theorem see_seeTree (n : Nat) : SeeOK Tryz.prog 3 9 tab n 50 [.sl 132] := see_seeTree_of n (see_seeNodes n)
theorem see_seeSharedHas (n : Nat) : SeeOK Tryz.prog 3 9 tab n 8 [.sl 132, .int .i64, .int .u8, .sl 5, .sl 45] := see_seeSharedHas_of n (see_seeTree n) (num_int tab n) (num_uint8 tab n) (see_nums_uint8 n) (see_seeBoolses n)
theorem see_seeSharedNth (n : Nat) : SeeOK Tryz.prog 3 9 tab n 22 [.sl 132, .int .i64, .bool, .sl 4, .int .i64, .int .i64] := see_seeSharedNth_of n (see_seeTree n) (num_int tab n) (yes_ok tab n) (see_yess n) (see_seeAnb n)
theorem see_seeSharedComb (n : Nat) : SeeOK Tryz.prog 3 9 tab n 32 [.sl 132, .sl 5, .sl 45, .int .i64] := see_seeSharedComb_of n (see_seeTree n) (see_nums_uint8 n) (see_seeBoolses n) (num_int tab n)
end Go.Proofs.YtgkamgijnhbcbaaGreatDoor
