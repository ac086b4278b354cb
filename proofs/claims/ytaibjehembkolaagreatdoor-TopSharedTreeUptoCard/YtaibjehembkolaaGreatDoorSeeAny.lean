/- The functions of the law that show a tree to an eye. -/
import Derived.Test.YtaibjehembkolaaGreatDoorSeeAll
import Derived.WalkKit
import Derived.WalkSpells
import Derived.WalkLawsBesides
import Derived.Deep.RegionLaw
import Derived.Deep.AppendLies
namespace Go.Proofs.YtaibjehembkolaaGreatDoor
open Go.RowKit Go.Vt Go.Proofs
theorem SeeOK.le {P : Program} {e1 e2 : Nat} {tab : Nat → List CT} {n m : Nat} {f : FuncId} {cts : List CT} (h : SeeOK P e1 e2 tab n f cts) (hm : m ≤ n) : SeeOK P e1 e2 tab m f cts := fun mk rm cs F w be oe B b o ns ss at_ hn hp => h mk rm cs F w be oe B b o ns ss at_ (Nat.le_trans hn hm) hp
set_option maxRecDepth 100000 in
set_option maxHeartbeats 400000 in
theorem see_seeSharedTree_of (n : Nat) (h28 : SeeOK Tryz.prog 3 9 tab n 28 [.str]) (h10 : SeeOK Tryz.prog 3 9 tab n 10 [.sl 66]) (h29 : SeeOK Tryz.prog 3 9 tab n 29 [.int .i64]) : SeeOK Tryz.prog 3 9 tab n 6 [.str, .sl 66, .int .i64, .int .i64] := by
  intro mk rm cs F w be oe B b o ns ss at_ hn h0
  obtain ⟨c0, r0, m0, p0, q0⟩ := SeePre.part (t1 := [.str]) (t2 := [.sl 66, .int .i64, .int .i64]) h0
  have d0 := h28 mk rm c0 F w be oe B b o ns ss at_ (by omega) p0
  have D0 := Lib.hid d0
  clear d0
  go_enter Tryz.func6, Tryz.ntmps6
  go_wp2_with fail
  refine D0.out.mono ?_
  rintro e0 w1 ⟨rfl, ns1, ss1, a1, s1⟩
  obtain ⟨cs1, n1, (p0' : SeePre 3 9 tab [.sl 66, .int .i64, .int .i64] mk rm cs1 F w1 be oe B b (o + 1) ns1 ss1 a1), q0'⟩ := q0 w1 ns1 ss1 a1 s1
  obtain ⟨c1, r1, m1, p1, q1⟩ := SeePre.part (t1 := [.sl 66]) (t2 := [.int .i64, .int .i64]) p0'
  have d1 := h10 mk rm c1 F w1 be oe B b (o + 1) ns1 ss1 a1 (by omega) p1
  have D1 := Lib.hid d1
  clear d1
  go_wp2_with fail
  refine D1.out.mono ?_
  rintro e1 w2 ⟨rfl, ns2, ss2, a2, s2⟩
  obtain ⟨cs2, n2, (p1' : SeePre 3 9 tab [.int .i64, .int .i64] mk rm cs2 F w2 be oe B b (o + 2) ns2 ss2 a2), q1'⟩ := q1 w2 ns2 ss2 a2 s2
  obtain ⟨c2, r2, m2, p2, q2⟩ := SeePre.part (t1 := [.int .i64]) (t2 := [.int .i64]) p1'
  have d2 := h29 mk rm c2 F w2 be oe B b (o + 2) ns2 ss2 a2 (by omega) p2
  have D2 := Lib.hid d2
  clear d2
  go_wp2_with fail
  refine D2.out.mono ?_
  rintro e2 w3 ⟨rfl, ns3, ss3, a3, s3⟩
  obtain ⟨cs3, n3, (p2' : SeePre 3 9 tab [.int .i64] mk rm cs3 F w3 be oe B b (o + 3) ns3 ss3 a3), q2'⟩ := q2 w3 ns3 ss3 a3 s3
  have d3 := h29 mk rm cs3 F w3 be oe B b (o + 3) ns3 ss3 a3 (by omega) p2'
  have D3 := Lib.hid d3
  clear d3
  go_wp2_with fail
  refine D3.out.mono ?_
  rintro e3 w4 ⟨rfl, ns4, ss4, a4, s4⟩
  go_wp2
  go_end0
  exact ⟨rfl, _, _, _, (q0' _ _ _ _ (q1' _ _ _ _ (q2' _ _ _ _ s4)))⟩
set_option maxRecDepth 100000 in
set_option maxHeartbeats 400000 in
theorem see_seeTree_of (n : Nat) (h31 : SeeOK Tryz.prog 3 9 tab n 31 [.sl 66]) : SeeOK Tryz.prog 3 9 tab n 10 [.sl 66] := by
  intro mk rm cs F w be oe B b o ns ss at_ hn h0
  have d0 := h31 mk rm cs F w be oe B b o ns ss at_ (by omega) h0
  have D0 := Lib.hid d0
  clear d0
  go_enter Tryz.func10, Tryz.ntmps10
  go_wp2_with fail
  refine D0.out.mono ?_
  rintro e0 w1 ⟨rfl, ns1, ss1, a1, s1⟩
  go_wp2
  go_end0
  exact ⟨rfl, _, _, _, s1⟩
set_option maxRecDepth 100000 in
set_option maxHeartbeats 400000 in
theorem see_seeNodes_of (n : Nat) (h1 : SeeOK Tryz.prog 3 9 tab n 41 (tab 66)) : SeeOK Tryz.prog 3 9 tab (n + 1) 31 [.sl 66] := by
  intro mk rm cs F w be oe B b o ns ss at_ hn h
  obtain ⟨sz, len, cap, rows, rfl⟩ := h.ht.sl1
  obtain ⟨v, hx, hrd⟩ := rd_sl h.rd
  obtain ⟨z1, z2, z3⟩ := one_row rm (C.sl sz len cap rows)
  have hent : ∀ args w, (callFunc 41 args).run Tryz.prog w = .ok (.enter 41 args) w := fun _ _ => rfl
  have hc := all_40 tab rfl n 41 h1 hent mk rm sz len cap rows v F w be oe B ns ss at_ (by rw [z1] at hn; exact hn) (h.sl hrd)
  rw [z1, z2, z3]
  have HC := Lib.hid hc
  clear hc h1 hent z1 z2 z3
  go_enter Tryz.func31, Tryz.ntmps31
  go_wp2_with fail
  refine HC.out.mono ?_
  rintro e w1 ⟨rfl, hp⟩
  go_wp2
  go_end0
  exact ⟨rfl, hp⟩
set_option maxRecDepth 100000 in
set_option maxHeartbeats 400000 in
theorem see_seeNode_of (n : Nat) (h28 : SeeOK Tryz.prog 3 9 tab n 28 [.str]) (h52 : SeeOK Tryz.prog 3 9 tab n 52 [.sl 73]) (h29 : SeeOK Tryz.prog 3 9 tab n 29 [.int .i64]) (h53 : SeeOK Tryz.prog 3 9 tab n 53 [.sl 3]) : SeeOK Tryz.prog 3 9 tab n 41 [.str, .sl 73, .int .i64, .sl 3] := by
  intro mk rm cs F w be oe B b o ns ss at_ hn h0
  obtain ⟨c0, r0, m0, p0, q0⟩ := SeePre.part (t1 := [.str]) (t2 := [.sl 73, .int .i64, .sl 3]) h0
  have d0 := h28 mk rm c0 F w be oe B b o ns ss at_ (by omega) p0
  have D0 := Lib.hid d0
  clear d0
  go_enter Tryz.func41, Tryz.ntmps41
  go_wp2_with fail
  refine D0.out.mono ?_
  rintro e0 w1 ⟨rfl, ns1, ss1, a1, s1⟩
  obtain ⟨cs1, n1, (p0' : SeePre 3 9 tab [.sl 73, .int .i64, .sl 3] mk rm cs1 F w1 be oe B b (o + 1) ns1 ss1 a1), q0'⟩ := q0 w1 ns1 ss1 a1 s1
  obtain ⟨c1, r1, m1, p1, q1⟩ := SeePre.part (t1 := [.sl 73]) (t2 := [.int .i64, .sl 3]) p0'
  have d1 := h52 mk rm c1 F w1 be oe B b (o + 1) ns1 ss1 a1 (by omega) p1
  have D1 := Lib.hid d1
  clear d1
  go_wp2_with fail
  refine D1.out.mono ?_
  rintro e1 w2 ⟨rfl, ns2, ss2, a2, s2⟩
  obtain ⟨cs2, n2, (p1' : SeePre 3 9 tab [.int .i64, .sl 3] mk rm cs2 F w2 be oe B b (o + 2) ns2 ss2 a2), q1'⟩ := q1 w2 ns2 ss2 a2 s2
  obtain ⟨c2, r2, m2, p2, q2⟩ := SeePre.part (t1 := [.int .i64]) (t2 := [.sl 3]) p1'
  have d2 := h29 mk rm c2 F w2 be oe B b (o + 2) ns2 ss2 a2 (by omega) p2
  have D2 := Lib.hid d2
  clear d2
  go_wp2_with fail
  refine D2.out.mono ?_
  rintro e2 w3 ⟨rfl, ns3, ss3, a3, s3⟩
  obtain ⟨cs3, n3, (p2' : SeePre 3 9 tab [.sl 3] mk rm cs3 F w3 be oe B b (o + 3) ns3 ss3 a3), q2'⟩ := q2 w3 ns3 ss3 a3 s3
  have d3 := h53 mk rm cs3 F w3 be oe B b (o + 3) ns3 ss3 a3 (by omega) p2'
  have D3 := Lib.hid d3
  clear d3
  go_wp2_with fail
  refine D3.out.mono ?_
  rintro e3 w4 ⟨rfl, ns4, ss4, a4, s4⟩
  go_wp2
  go_end0
  exact ⟨rfl, _, _, _, (q0' _ _ _ _ (q1' _ _ _ _ (q2' _ _ _ _ s4)))⟩
set_option maxRecDepth 100000 in
set_option maxHeartbeats 400000 in
theorem see_seeAttrs_of (n : Nat) (h1 : SeeOK Tryz.prog 3 9 tab n 83 (tab 73)) : SeeOK Tryz.prog 3 9 tab (n + 1) 52 [.sl 73] := by
  intro mk rm cs F w be oe B b o ns ss at_ hn h
  obtain ⟨sz, len, cap, rows, rfl⟩ := h.ht.sl1
  obtain ⟨v, hx, hrd⟩ := rd_sl h.rd
  obtain ⟨z1, z2, z3⟩ := one_row rm (C.sl sz len cap rows)
  have hent : ∀ args w, (callFunc 83 args).run Tryz.prog w = .ok (.enter 83 args) w := fun _ _ => rfl
  have hc := all_82 tab rfl n 83 h1 hent mk rm sz len cap rows v F w be oe B ns ss at_ (by rw [z1] at hn; exact hn) (h.sl hrd)
  rw [z1, z2, z3]
  have HC := Lib.hid hc
  clear hc h1 hent z1 z2 z3
  go_enter Tryz.func52, Tryz.ntmps52
  go_wp2_with fail
  refine HC.out.mono ?_
  rintro e w1 ⟨rfl, hp⟩
  go_wp2
  go_end0
  exact ⟨rfl, hp⟩
set_option maxRecDepth 100000 in
set_option maxHeartbeats 400000 in
theorem see_nums_int_of (n : Nat) (h1 : SeeOK Tryz.prog 3 9 tab n 29 (tab 3)) : SeeOK Tryz.prog 3 9 tab (n + 1) 53 [.sl 3] := by
  intro mk rm cs F w be oe B b o ns ss at_ hn h
  obtain ⟨sz, len, cap, rows, rfl⟩ := h.ht.sl1
  obtain ⟨v, hx, hrd⟩ := rd_sl h.rd
  obtain ⟨z1, z2, z3⟩ := one_row rm (C.sl sz len cap rows)
  have hent : ∀ args w, (callFunc 29 args).run Tryz.prog w = .ok (.enter 29 args) w := fun _ _ => rfl
  have hc := all_84 tab rfl n 29 h1 hent mk rm sz len cap rows v F w be oe B ns ss at_ (by rw [z1] at hn; exact hn) (h.sl hrd)
  rw [z1, z2, z3]
  have HC := Lib.hid hc
  clear hc h1 hent z1 z2 z3
  go_enter Tryz.func53, Tryz.ntmps53
  go_wp2_with fail
  refine HC.out.mono ?_
  rintro e w1 ⟨rfl, hp⟩
  go_wp2
  go_end0
  exact ⟨rfl, hp⟩
set_option maxRecDepth 100000 in
set_option maxHeartbeats 400000 in
theorem see_seeAttr_of (n : Nat) (h28 : SeeOK Tryz.prog 3 9 tab n 28 [.str]) : SeeOK Tryz.prog 3 9 tab n 83 [.str, .str] := by
  intro mk rm cs F w be oe B b o ns ss at_ hn h0
  obtain ⟨c0, r0, m0, p0, q0⟩ := SeePre.part (t1 := [.str]) (t2 := [.str]) h0
  have d0 := h28 mk rm c0 F w be oe B b o ns ss at_ (by omega) p0
  have D0 := Lib.hid d0
  clear d0
  go_enter Tryz.func83, Tryz.ntmps83
  go_wp2_with fail
  refine D0.out.mono ?_
  rintro e0 w1 ⟨rfl, ns1, ss1, a1, s1⟩
  obtain ⟨cs1, n1, (p0' : SeePre 3 9 tab [.str] mk rm cs1 F w1 be oe B b (o + 1) ns1 ss1 a1), q0'⟩ := q0 w1 ns1 ss1 a1 s1
  have d1 := h28 mk rm cs1 F w1 be oe B b (o + 1) ns1 ss1 a1 (by omega) p0'
  have D1 := Lib.hid d1
  clear d1
  go_wp2_with fail
  refine D1.out.mono ?_
  rintro e1 w2 ⟨rfl, ns2, ss2, a2, s2⟩
  go_wp2
  go_end0
  exact ⟨rfl, _, _, _, (q0' _ _ _ _ s2)⟩
theorem see_nums_int : ∀ n, SeeOK Tryz.prog 3 9 tab n 53 [.sl 3]
  | 0 => fun _ _ cs _ _ _ _ _ _ _ _ _ _ hn hp => by obtain ⟨sz, len, cap, rows, rfl⟩ := hp.ht.sl1; simp [nodesRow, nodes] at hn
  | n + 1 => see_nums_int_of n (num_int tab n)
theorem see_seeAttr (n : Nat) : SeeOK Tryz.prog 3 9 tab n 83 [.str, .str] := see_seeAttr_of n (str_ok tab n)
theorem see_seeAttrs : ∀ n, SeeOK Tryz.prog 3 9 tab n 52 [.sl 73]
  | 0 => fun _ _ cs _ _ _ _ _ _ _ _ _ _ hn hp => by obtain ⟨sz, len, cap, rows, rfl⟩ := hp.ht.sl1; simp [nodesRow, nodes] at hn
  | n + 1 => see_seeAttrs_of n (see_seeAttr n)
theorem see_seeNode (n : Nat) : SeeOK Tryz.prog 3 9 tab n 41 [.str, .sl 73, .int .i64, .sl 3] := see_seeNode_of n (str_ok tab n) (see_seeAttrs n) (num_int tab n) (see_nums_int n)
theorem see_seeNodes : ∀ n, SeeOK Tryz.prog 3 9 tab n 31 [.sl 66]
  | 0 => fun _ _ cs _ _ _ _ _ _ _ _ _ _ hn hp => by obtain ⟨sz, len, cap, rows, rfl⟩ := hp.ht.sl1; simp [nodesRow, nodes] at hn
  | n + 1 => see_seeNodes_of n (see_seeNode n)
theorem see_seeTree (n : Nat) : SeeOK Tryz.prog 3 9 tab n 10 [.sl 66] := see_seeTree_of n (see_seeNodes n)
theorem see_seeSharedTree (n : Nat) : SeeOK Tryz.prog 3 9 tab n 6 [.str, .sl 66, .int .i64, .int .i64] := see_seeSharedTree_of n (str_ok tab n) (see_seeTree n) (num_int tab n)
end Go.Proofs.YtaibjehembkolaaGreatDoor
