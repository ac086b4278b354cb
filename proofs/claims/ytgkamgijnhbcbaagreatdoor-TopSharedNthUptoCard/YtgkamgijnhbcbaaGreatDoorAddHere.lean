/- tree.Add at one node. -/
import Derived.Test.YtgkamgijnhbcbaaGreatDoorDocs
import Derived.Test.YtgkamgijnhbcbaaGreatDoorCopied
import Derived.WalkKit
import Derived.WalkSpells
import Derived.WalkLawsBesides
import Derived.Deep.RegionWith
import Derived.RegionTactic
namespace Go.Proofs.YtgkamgijnhbcbaaGreatDoor
open Go.RowKit Go.Proofs
open Go.Vt
/-- A tree and a number. -/
def AddP (e : Ending) : Prop := ∃ a n c, e = .returned (.tuple #[.agg #[.slice a n c], .int .i64 1, .int .i64 0])
set_option maxRecDepth 100000 in
set_option maxHeartbeats 4000000 in
theorem add_doc (w : World) (g c : Nat) (hc : 1 ≤ c) (h : Node w g) : Calls Tryz.prog 316 #[.agg #[.slice (some ⟨g, 0, none⟩) 1 c], .string ⟨#[112]⟩] w fun e w' => AddP e ∧ Below w.heap.size w w' := by
  obtain ⟨i0, hi0, hz0, hz1, hz2⟩ := info_parts zinfo132
  go_enter Tryz.func316, Tryz.ntmps316
  go_wp2_with fail
  refine (check_one _ g c hc ((h.alloc _).alloc _)).mono ?_
  rintro e w1 ⟨rfl, hb⟩
  have hA : Lies w.heap.size w _ w.heap.size (.cells #[.slice (some ⟨g, 0, none⟩) 1 c] 24 (0, 0)) := ((Lies.new (w := w) (o := Obj.cells #[.slice (some ⟨g, 0, none⟩) 1 c] 24) rfl).alloc (Nat.le_refl _) _).keep (Nat.le_refl _) hb
  have hR : Lies w.heap.size w _ (w.heap.size + 1) (.cells #[.slice none 0 0] 24 (0, 0)) := (Lies.here (x := Obj.cells #[.slice none 0 0] 24) (by simp) (by omega) (by repeat (first | exact Below.refl _ _ | refine below_drew ?_ | refine below_alloc _ ?_ (by first | omega | (simp <;> omega))))).keep (by omega) hb
  have hn := ((h.alloc _).alloc _).keep hb
  clear hb
  have a0 : w1.cell? ⟨w.heap.size, 0, none⟩ = some (.slice (some ⟨g, 0, none⟩) 1 c) := cell_of_row _ _ 0 _ _ _ hA.1
  have r0 : w1.cell? ⟨w.heap.size + 1, 0, none⟩ = some (.slice none 0 0) := cell_of_row _ _ 0 _ _ _ hR.1
  have rf : w1.frozen? ⟨w.heap.size + 1, 0, none⟩ = false := (by simp [World.frozen?, hR.1])
  obtain ⟨hlt, n0, n1, n2, n3⟩ := id hn
  have hl0 := hA.lt
  have hl1 := hR.lt
  have hg1 : g < w1.heap.size + 1 := by omega
  have hg2 : g < w1.heap.size + 1 + 1 := by omega
  go_wp2_with (go_at_call 96; refine (named_p _).mono ?_; rintro e w1 ⟨rfl, rfl⟩)
  refine Rounds.loop 2 ?_
  unfold Rounds
  go_wp2_with fail
  go_region_with (first | (go_at_call 395; refine (clone34 _).mono ?_; rintro e w2 ⟨rfl, rfl⟩) | (go_at_call 83; refine (clone35 _).mono ?_; rintro e w2 ⟨rfl, rfl⟩))
  all_goals
    go_wp2_with (at_builtin; go_must (refine wpList_append_lies _ rfl _ _ 22 rfl w.heap.size 132 i0 _ 4 72 Tryz.underlying22 hi0 hz0 hz1 hz2 rfl (by decide) (.slice none 0 0) 0 [] rfl (World.ownsRow_nil _ _ _ _) _ 1 1 #[.string ⟨#[104, 116, 109, 108]⟩, .slice none 0 0, .int .i64 (-1), .slice none 0 0].toList rfl rfl (new_cells (Lies.out1 (B := w.heap.size) (w := w) (r := w1.heap.size + 1 + 1) (o := .cells #[.string ⟨#[104, 116, 109, 108]⟩, .slice none 0 0, .int .i64 (-1), .slice none 0 0] 132 (0, 0)) (by repeat (first | exact Lies.here (by simp) (by omega) (by repeat (first | exact hA.2 | refine below_drew ?_ | refine below_alloc _ ?_ (by first | omega | (simp <;> omega)))) | refine Lies.drew ?_ | refine Lies.alloc ?_ (by omega) _)))) (by decide) (by decide) (by decide) (by decide) (Nat.le_trans (Nat.le_of_lt hl0) (by show w1.heap.size ≤ _; simp [World.drew] <;> omega)) _ rfl ?_; intro gg cap w2 ho hg hgg hlt2; have hT : Lies w.heap.size w _ w1.heap.size (.cells #[.slice none 0 0] 24 (0, 0)) := Lies.grown (by repeat (first | exact Lies.here (by simp) (by omega) (by repeat (first | exact hA.2 | refine below_drew ?_ | refine below_alloc _ ?_ (by first | omega | (simp <;> omega)))) | refine Lies.drew ?_ | refine Lies.alloc ?_ (by omega) _)) (by omega) hg (by simp [Value.ownBlock]) (by simp [Value.ownBlock]); have hA2 : Lies w.heap.size w _ w.heap.size (.cells #[.slice (some ⟨g, 0, none⟩) 1 c] 24 (0, 0)) := Lies.grown (by repeat (first | exact hA | refine Lies.drew ?_ | refine Lies.alloc ?_ (by omega) _)) (by omega) hg (by simp [Value.ownBlock]) (by simp [Value.ownBlock]); have hR2 : Lies w.heap.size w _ (w.heap.size + 1) (.cells #[.slice none 0 0] 24 (0, 0)) := Lies.grown (by repeat (first | exact hR | refine Lies.drew ?_ | refine Lies.alloc ?_ (by omega) _)) (by omega) hg (by simp [Value.ownBlock]) (by simp [Value.ownBlock]); have hgg' : gg = w1.heap.size + 1 + 1 + 1 := (by simpa [Value.ownBlock] using hgg); clear hgg; subst hgg'; have t0 : w2.cell? ⟨w1.heap.size, 0, none⟩ = some (.slice none 0 0) := cell_of_row _ _ 0 _ _ _ hT.1; have tf : w2.frozen? ⟨w1.heap.size, 0, none⟩ = false := (by simp [World.frozen?, hT.1])))
    unfold Rounds
    go_wp2_with (at_builtin; go_must (refine wpList_append_lies _ rfl _ _ 22 rfl w.heap.size 132 i0 _ 4 72 Tryz.underlying22 hi0 hz0 hz1 hz2 rfl (by decide) (.slice (some ⟨w1.heap.size + 1 + 1 + 1, 0, none⟩) (0 + 1) cap) (0 + 1) _ rfl ((ho.kept (grownBy_setCell _ _ _ _) (.inr (by simp [Value.ownBlock]; omega))).alloc _) _ 1 1 #[.string ⟨#[112]⟩, .slice none 0 0, .int .i64 (-1), .slice none 0 0].toList rfl rfl (new_cells (Lies.out1 (Lies.here (B := 0) (by simp [World.setCell]) (Nat.zero_le _) (Below.refl _ _)))) (by decide) (by decide) (by decide) (by decide) (Nat.le_trans (Nat.le_of_lt hA2.lt) (by simp [World.setCell])) _ rfl ?_; intro g2 cap2 w3 ho2 hg2 hor hlt3; have hT3 := Lies.grown ((hT.cell (by omega) 0 _).alloc (by omega) _) (by omega) hg2 (by simp [Value.ownBlock]; omega) (by simp [Value.ownBlock]; omega); have hA3 := Lies.grown ((hA2.cell_other (by omega) (by omega) 0 _).alloc (by omega) _) (by omega) hg2 (by simp [Value.ownBlock]; omega) (by simp [Value.ownBlock]; omega); have hR3 := Lies.grown ((hR2.cell_other (by omega) (by omega) 0 _).alloc (by omega) _) (by omega) hg2 (by simp [Value.ownBlock]; omega) (by simp [Value.ownBlock]; omega); have b0 : w3.cell? ⟨w.heap.size, 0, none⟩ = some (.slice (some ⟨g, 0, none⟩) 1 c) := cell_of_row _ _ 0 _ _ _ hA3.1; have u0 : w3.cell? ⟨w1.heap.size, 0, none⟩ = some (.slice (some ⟨w1.heap.size + 1 + 1 + 1, 0, none⟩) 1 cap) := cell_of_row _ _ 0 _ _ _ hT3.1; have uf : w3.frozen? ⟨w1.heap.size, 0, none⟩ = false := (by simp [World.frozen?, hT3.1]); have s0 : w3.cell? ⟨w.heap.size + 1, 0, none⟩ = some (.slice none 0 0) := cell_of_row _ _ 0 _ _ _ hR3.1; have sf : w3.frozen? ⟨w.heap.size + 1, 0, none⟩ = false := (by simp [World.frozen?, hR3.1])))
    have ne1 : w.heap.size ≠ w1.heap.size := by omega
    have ne2 : w.heap.size + 1 ≠ w1.heap.size := by omega
    go_region
    have hF := ((hR3.cell_other (by omega) ne2 0 (.slice (some ⟨g2, 0, none⟩) 2 cap2)).cell (by omega) 0 (.slice (some ⟨g2, 0, none⟩) 2 cap2)).drew
    go_wp2_with fail
    have f0 := cell_of_row _ _ 0 _ _ _ hF.1
    refine bodyPost_ret (v := .tuple #[.agg #[.slice (some ⟨g2, 0, none⟩) 2 cap2], .int .i64 1, .int .i64 0]) (by simp [results, Tryz.results316, go_sem, f0]) rfl ⟨⟨_, _, _, rfl⟩, hF.2⟩
end Go.Proofs.YtgkamgijnhbcbaaGreatDoor
