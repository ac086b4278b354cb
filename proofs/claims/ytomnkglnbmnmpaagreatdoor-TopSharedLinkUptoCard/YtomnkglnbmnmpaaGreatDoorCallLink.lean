/- Three of the four calls of package link's law fulfil its contract. -/
import Derived.Test.YtomnkglnbmnmpaaGreatDoorLinks
import Derived.Test.YtomnkglnbmnmpaaGreatDoorGave
import Derived.WalkKit
import Derived.WalkSpells
import Derived.WalkLawsBesides
import Derived.Deep.RegionWith
import Derived.RegionTactic
import Derived.StillTailTactics
namespace Go.Proofs.YtomnkglnbmnmpaaGreatDoor
open Go.RowKit Go.Vt Go.Proofs
/-- y's cells. -/
theorem y_at_Link {F : Nat → Prop} {w : World} {b : Nat} {cs : List C} (ht : HtRow tab [.sl 107, .int .i64] cs) (h : RdRow F w b 0 cs) :
    ∃ (a : _) (len : _) (cap : _) (rows : _) (i1 : Int), cs = [.sl 4 len cap rows, .int .i64 i1] ∧ Rd F w (.sl 4 len cap rows) (.slice a len cap) ∧ HtRows tab [.str, .sl 116, .int .i64, .sl 3] rows ∧ w.cell? ⟨b, 0, none⟩ = some (.slice a len cap) ∧ w.cell? ⟨b, 1, none⟩ = some (.int .i64 i1) := by
  obtain ⟨c0, cs0, rfl, k0, h1⟩ := ht.cons
  obtain ⟨c1, cs1, rfl, k1, h2⟩ := h1.cons
  obtain rfl := h2.nil
  obtain ⟨len, cap, rows, rfl, g1⟩ := ht_slE k0
  obtain ⟨i1, rfl⟩ := ht_int k1
  simp only [RdRow, and_true] at h
  obtain ⟨⟨v0, q0, r0⟩, ⟨v1, q1, r1⟩⟩ := h
  have r' := r0
  simp only [Rd] at r0 r1
  obtain ⟨a, rfl, _⟩ := r0
  subst r1
  exact ⟨a, len, cap, rows, i1, rfl, r', g1, q0, q1⟩
set_option maxRecDepth 100000 in
theorem see_f67 (n : Nat) : SeeOK Tryz.prog 3 9 tab n 67 [.sl 3] := by
  intro mk rm cs F w be oe B b o ns ss at_ hn h
  have hc := see_nums_int n mk rm cs F w be oe B b o ns ss at_ hn h
  have HC := Lib.hid hc
  clear hc h hn
  go_enter Tryz.func67, Tryz.ntmps67
  go_wp2_with fail
  refine HC.out.mono ?_
  rintro e w1 ⟨rfl, hp⟩
  go_wp2_with fail
  go_end0
  exact ⟨rfl, hp⟩
end Go.Proofs.YtomnkglnbmnmpaaGreatDoor
namespace Go.Proofs.YtomnkglnbmnmpaaGreatDoor
open Go.RowKit Go.Vt Go.Proofs
set_option maxRecDepth 100000 in
theorem call_lis (n : Nat) : CallOK Tryz.prog 3 9 tab n 59 [.sl 107, .int .i64] := by
  intro F W b cs hn ht hr hb hF
  obtain ⟨a, len, cap, rows, i1, rfl, h1, h2, q0, q1⟩ := y_at_Link ht hr
  have hnn : nodesRows rows ≤ 500000000000 := by
    simp only [nodesRow, nodes, limY] at hn; omega
  have hc := lisq_ok F W.drew a i1 len cap rows (Rd.mono (w := W) (w' := W.drew) (fun k hk => ⟨hk, rfl⟩) _ _ h1) h2 hF (by omega)
  have HC := Lib.hid hc
  clear hc h1 h2 hr ht hn
  go_enter Tryz.func59, Tryz.ntmps59
  go_wp2_with fail
  go_still_tail 8, (by kernel_rfl)
  change wpList _ _ _ _ _ W.drew
  go_wp2_with fail
  refine HC.out.mono ?_
  rintro e w1 ⟨⟨_, _, rfl⟩, hb1⟩
  go_wp2_with fail
  go_ret
  exact ⟨_, [], rfl, gave_nil, ⟨hb1.os, hb1.tape, hb1.output, hb1.size, hb1.block⟩⟩
set_option maxRecDepth 100000 in
theorem call_href (n : Nat) : CallOK Tryz.prog 3 9 tab n 61 [.sl 107, .int .i64] := by
  intro F W b cs hn ht hr hb hF
  obtain ⟨a, len, cap, rows, i1, rfl, h1, h2, q0, q1⟩ := y_at_Link ht hr
  have hnn : nodesRows rows ≤ 500000000000 := by
    simp only [nodesRow, nodes, limY] at hn; omega
  have hc := href_ok F W.drew a i1 len cap rows (Rd.mono (w := W) (w' := W.drew) (fun k hk => ⟨hk, rfl⟩) _ _ h1) h2 hF (by omega)
  have HC := Lib.hid hc
  clear hc h1 h2 hr ht hn
  go_enter Tryz.func61, Tryz.ntmps61
  go_wp2_with fail
  go_still_tail 8, (by kernel_rfl)
  change wpList _ _ _ _ _ W.drew
  go_wp2_with fail
  refine HC.out.mono ?_
  rintro e w1 ⟨⟨_, _, rfl⟩, hb1⟩
  go_wp2_with fail
  go_ret
  exact ⟨_, [], rfl, gave_nil, ⟨hb1.os, hb1.tape, hb1.output, hb1.size, hb1.block⟩⟩
set_option maxRecDepth 100000 in
theorem call_relevant (n : Nat) : CallOK Tryz.prog 3 9 tab n 63 [.sl 107, .int .i64] := by
  intro F W b cs hn ht hr hb hF
  obtain ⟨a, len, cap, rows, i1, rfl, h1, h2, q0, q1⟩ := y_at_Link ht hr
  have hnn : nodesRows rows ≤ 500000000000 := by
    simp only [nodesRow, nodes, limY] at hn; omega
  have hc := relevant_ok F W.drew a i1 len cap rows (Rd.mono (w := W) (w' := W.drew) (fun k hk => ⟨hk, rfl⟩) _ _ h1) h2 hF (by omega)
  have HC := Lib.hid hc
  clear hc h1 h2 hr ht hn
  go_enter Tryz.func63, Tryz.ntmps63
  go_wp2_with fail
  go_still_tail 8, (by kernel_rfl)
  change wpList _ _ _ _ _ W.drew
  go_wp2_with fail
  refine HC.out.mono ?_
  rintro e w1 ⟨⟨_, _, rfl⟩, hb1⟩
  go_wp2_with fail
  go_ret
  exact ⟨_, [], rfl, gave_nil, ⟨hb1.os, hb1.tape, hb1.output, hb1.size, hb1.block⟩⟩
end Go.Proofs.YtomnkglnbmnmpaaGreatDoor
