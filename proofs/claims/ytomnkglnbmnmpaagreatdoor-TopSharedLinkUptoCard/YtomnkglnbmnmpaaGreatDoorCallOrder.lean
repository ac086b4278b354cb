/- Four of the six calls of package order's law fulfil its contract. -/
import Derived.Test.YtomnkglnbmnmpaaGreatDoorCompare
import Derived.Test.YtomnkglnbmnmpaaGreatDoorGave
import Derived.WalkKit
import Derived.WalkSpells
import Derived.WalkLawsBesides
import Derived.Deep.RegionWith
import Derived.RegionTactic
import Derived.StillTailTactics
namespace Go.Proofs.YtomnkglnbmnmpaaGreatDoor
open Go.RowKit Go.Vt Go.Proofs
/-- A list of numbers in new memory. -/
def NewInts (B m : Nat) (w : World) (v : Value) : Prop := ∃ len cap rows, Rd (Nw B w) w (.sl 1 len cap rows) v ∧ HtRows tab [.int .i64] rows ∧ nodesRows rows ≤ m
/-- y's cells. -/
theorem y_at_Order {F : Nat → Prop} {w : World} {b : Nat} {cs : List C} (ht : HtRow tab [.sl 107, .int .i64, .int .i64] cs) (h : RdRow F w b 0 cs) :
    ∃ (a : _) (len : _) (cap : _) (rows : _) (i1 : Int) (i2 : Int), cs = [.sl 4 len cap rows, .int .i64 i1, .int .i64 i2] ∧ Rd F w (.sl 4 len cap rows) (.slice a len cap) ∧ HtRows tab [.str, .sl 116, .int .i64, .sl 3] rows ∧ w.cell? ⟨b, 0, none⟩ = some (.slice a len cap) ∧ w.cell? ⟨b, 1, none⟩ = some (.int .i64 i1) ∧ w.cell? ⟨b, 2, none⟩ = some (.int .i64 i2) := by
  obtain ⟨c0, cs0, rfl, k0, h1⟩ := ht.cons
  obtain ⟨c1, cs1, rfl, k1, h2⟩ := h1.cons
  obtain ⟨c2, cs2, rfl, k2, h3⟩ := h2.cons
  obtain rfl := h3.nil
  obtain ⟨len, cap, rows, rfl, g1⟩ := ht_slE k0
  obtain ⟨i1, rfl⟩ := ht_int k1
  obtain ⟨i2, rfl⟩ := ht_int k2
  simp only [RdRow, and_true] at h
  obtain ⟨⟨v0, q0, r0⟩, ⟨v1, q1, r1⟩, ⟨v2, q2, r2⟩⟩ := h
  have r' := r0
  simp only [Rd] at r0 r1 r2
  obtain ⟨a, rfl, _⟩ := r0
  subst r1 r2
  exact ⟨a, len, cap, rows, i1, i2, rfl, r', g1, q0, q1, q2⟩
set_option maxRecDepth 100000 in
theorem see_f43 (n : Nat) : SeeOK Tryz.prog 3 9 tab n 43 [.sl 3] := by
  intro mk rm cs F w be oe B b o ns ss at_ hn h
  have hc := see_nums_int n mk rm cs F w be oe B b o ns ss at_ hn h
  have HC := Lib.hid hc
  clear hc h hn
  go_enter Tryz.func43, Tryz.ntmps43
  go_wp2_with fail
  refine HC.out.mono ?_
  rintro e w1 ⟨rfl, hp⟩
  go_wp2_with fail
  go_end0
  exact ⟨rfl, hp⟩
set_option maxRecDepth 100000 in
theorem see_f55 (n : Nat) : SeeOK Tryz.prog 3 9 tab n 55 [.sl 3] := by
  intro mk rm cs F w be oe B b o ns ss at_ hn h
  have hc := see_nums_int n mk rm cs F w be oe B b o ns ss at_ hn h
  have HC := Lib.hid hc
  clear hc h hn
  go_enter Tryz.func55, Tryz.ntmps55
  go_wp2_with fail
  refine HC.out.mono ?_
  rintro e w1 ⟨rfl, hp⟩
  go_wp2_with fail
  go_end0
  exact ⟨rfl, hp⟩
end Go.Proofs.YtomnkglnbmnmpaaGreatDoor
namespace Go.Proofs.YtomnkglnbmnmpaaGreatDoor
open Go.RowKit Go.Vt Go.Proofs
set_option maxRecDepth 100000 in
theorem call_compare (n : Nat) : CallOK Tryz.prog 3 9 tab n 45 [.sl 107, .int .i64, .int .i64] := by
  intro F W b cs hn ht hr hb hF
  obtain ⟨a, len, cap, rows, i1, i2, rfl, h1, h2, q0, q1, q2⟩ := y_at_Order ht hr
  have hnn : nodesRows rows ≤ 500000000000 := by
    simp only [nodesRow, nodes, limY] at hn; omega
  have hc := compare_ok2 F W.drew a i1 i2 len cap rows (Rd.mono (w := W) (w' := W.drew) (fun k hk => ⟨hk, rfl⟩) _ _ h1) h2 hF (by omega)
  have HC := Lib.hid hc
  clear hc h1 h2 hr ht hn
  go_enter Tryz.func45, Tryz.ntmps45
  go_wp2_with fail
  go_still_tail 12, (by kernel_rfl)
  change wpList _ _ _ _ _ W.drew
  go_wp2_with fail
  refine HC.out.mono ?_
  rintro e w1 ⟨⟨_, _, rfl⟩, hb1⟩
  go_wp2_with fail
  go_ret
  exact ⟨_, [], rfl, gave_nil, ⟨hb1.os, hb1.tape, hb1.output, hb1.size, hb1.block⟩⟩
set_option maxRecDepth 100000 in
theorem call_place (n : Nat) : CallOK Tryz.prog 3 9 tab n 47 [.sl 107, .int .i64, .int .i64] := by
  intro F W b cs hn ht hr hb hF
  obtain ⟨a, len, cap, rows, i1, i2, rfl, h1, h2, q0, q1, q2⟩ := y_at_Order ht hr
  have hnn : nodesRows rows ≤ 500000000000 := by
    simp only [nodesRow, nodes, limY] at hn; omega
  have hc := place_ok F W.drew a i1 len cap rows (Rd.mono (w := W) (w' := W.drew) (fun k hk => ⟨hk, rfl⟩) _ _ h1) h2 hF (by omega)
  have HC := Lib.hid hc
  clear hc h1 h2 hr ht hn
  go_enter Tryz.func47, Tryz.ntmps47
  go_wp2_with fail
  go_still_tail 8, (by kernel_rfl)
  change wpList _ _ _ _ _ W.drew
  go_wp2_with fail
  refine HC.out.mono ?_
  rintro e w1 ⟨⟨_, _, rfl⟩, hb1⟩
  go_wp2_with fail
  go_ret
  exact ⟨_, [], rfl, gave_nil, ⟨hb1.os, hb1.tape, hb1.output, hb1.size, hb1.block⟩⟩
set_option maxRecDepth 100000 in
theorem call_previous (n : Nat) : CallOK Tryz.prog 3 9 tab n 49 [.sl 107, .int .i64, .int .i64] := by
  intro F W b cs hn ht hr hb hF
  obtain ⟨a, len, cap, rows, i1, i2, rfl, h1, h2, q0, q1, q2⟩ := y_at_Order ht hr
  have hnn : nodesRows rows ≤ 500000000000 := by
    simp only [nodesRow, nodes, limY] at hn; omega
  have hc := previous_ok F W.drew a i1 len cap rows (Rd.mono (w := W) (w' := W.drew) (fun k hk => ⟨hk, rfl⟩) _ _ h1) h2 hF (by omega)
  have HC := Lib.hid hc
  clear hc h1 h2 hr ht hn
  go_enter Tryz.func49, Tryz.ntmps49
  go_wp2_with fail
  go_still_tail 8, (by kernel_rfl)
  change wpList _ _ _ _ _ W.drew
  go_wp2_with fail
  refine HC.out.mono ?_
  rintro e w1 ⟨⟨_, _, rfl⟩, hb1⟩
  go_wp2_with fail
  go_ret
  exact ⟨_, [], rfl, gave_nil, ⟨hb1.os, hb1.tape, hb1.output, hb1.size, hb1.block⟩⟩
set_option maxRecDepth 100000 in
theorem call_next (n : Nat) : CallOK Tryz.prog 3 9 tab n 51 [.sl 107, .int .i64, .int .i64] := by
  intro F W b cs hn ht hr hb hF
  obtain ⟨a, len, cap, rows, i1, i2, rfl, h1, h2, q0, q1, q2⟩ := y_at_Order ht hr
  have hnn : nodesRows rows ≤ 500000000000 := by
    simp only [nodesRow, nodes, limY] at hn; omega
  have hc := next_ok F W.drew a i1 len cap rows (Rd.mono (w := W) (w' := W.drew) (fun k hk => ⟨hk, rfl⟩) _ _ h1) h2 hF (by omega)
  have HC := Lib.hid hc
  clear hc h1 h2 hr ht hn
  go_enter Tryz.func51, Tryz.ntmps51
  go_wp2_with fail
  go_still_tail 8, (by kernel_rfl)
  change wpList _ _ _ _ _ W.drew
  go_wp2_with fail
  refine HC.out.mono ?_
  rintro e w1 ⟨⟨_, _, rfl⟩, hb1⟩
  go_wp2_with fail
  go_ret
  exact ⟨_, [], rfl, gave_nil, ⟨hb1.os, hb1.tape, hb1.output, hb1.size, hb1.block⟩⟩
end Go.Proofs.YtomnkglnbmnmpaaGreatDoor
