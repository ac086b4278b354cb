/- The console: a new document. -/
import Derived.Test.YtgkamgijnhbcbaaGreatDoorNodeHere
import Derived.WalkKit
import Derived.WalkSpells
import Derived.WalkLawsBesides
import Derived.Test.YtgkamgijnhbcbaaGreatDoorGen
import Derived.RegionTactic
namespace Go.Proofs.YtgkamgijnhbcbaaGreatDoor
open Go.RowKit Go.Proofs
open Go.Vt
set_option maxRecDepth 100000 in
theorem new_html (w : World) : Calls Tryz.prog 179 #[.string ⟨#[104, 116, 109, 108]⟩] w fun e w' => (∃ g, e = .returned (.tuple #[.agg #[.slice (some ⟨g, 0, none⟩) 1 1], .int .i64 0]) ∧ NodeAt w' g ∧ w.heap.size ≤ g) ∧ Below w.heap.size w w' := by
  go_enter Tryz.func179, Tryz.ntmps179
  go_wp2_with (go_at_call 96; refine (named_html _).mono ?_; rintro e w1 ⟨rfl, rfl⟩)
  have hL := Lies.new (w := w) (o := Obj.cells #[Value.slice (some ⟨w.heap.size + 1, 0, none⟩) 1 1] 24) rfl
  have hN := hL.next' (Obj.cells #[.string ⟨#[104, 116, 109, 108]⟩, .slice none 0 0, .int .i64 (-1), .slice none 0 0] 132)
  replace hL := hL.alloc (Nat.le_refl _) (Obj.cells #[.string ⟨#[104, 116, 109, 108]⟩, .slice none 0 0, .int .i64 (-1), .slice none 0 0] 132)
  rw [World.size_alloc] at hN
  generalize World.alloc (World.alloc w _) _ = W at hL hN ⊢
  have e0 : W.cell? ⟨w.heap.size, 0, none⟩ = some (Value.slice (some ⟨w.heap.size + 1, 0, none⟩) 1 1) := cell_of_row _ _ 0 _ _ _ hL.1
  refine bodyPost_ret (v := .tuple #[.agg #[.slice (some ⟨w.heap.size + 1, 0, none⟩) 1 1], .int .i64 0]) (by simp [results, Tryz.results179, go_sem, e0]) rfl ?_
  exact ⟨⟨_, rfl, hN.1, by omega⟩, hL.2⟩
/-- The document of a new script. -/
def DocP (w : World) (e : Ending) (w' : World) : Prop := ∃ g, e = .returned (.tuple #[.agg #[.string ⟨#[104, 101, 114, 101]⟩, .slice (some ⟨g, 0, none⟩) 1 1, .slice none 0 0, .int .i64 0, .int .i64 800], .int .i64 0]) ∧ NodeAt w' g ∧ w.heap.size ≤ g
set_option maxRecDepth 100000 in
theorem new_doc (w : World) : Calls Tryz.prog 146 #[.string ⟨#[104, 101, 114, 101]⟩, .int .i64 800] w fun e w' => DocP w e w' ∧ Below w.heap.size w w' := by
  go_enter Tryz.func146, Tryz.ntmps146
  go_wp2_with fail
  have hL := Lies.new (w := w) (o := Obj.cells #[.string ⟨#[]⟩, .slice none 0 0, .slice none 0 0, .int .i64 0, .int .i64 0] 150) rfl
  refine (new_html _).mono ?_
  rintro e w1 ⟨⟨g, rfl, hN, hg⟩, hb⟩
  replace hL := (hL.keep (Nat.le_refl _) hb)
  rw [World.size_alloc] at hg
  clear hb
  have hl := hL.lt
  have hl2 := hN.lt
  have hN2 : Lies w.heap.size w w1 g (.cells #[.string ⟨#[104, 116, 109, 108]⟩, .slice none 0 0, .int .i64 (-1), .slice none 0 0] 132 (0, 0)) := ⟨hN, hL.2⟩
  go_wp2_with (refine wpList_store_row rfl 150 _ _ rfl _ #[.string ⟨#[104, 101, 114, 101]⟩, .slice (some ⟨g, 0, none⟩) 1 1, .slice none 0 0, .int .i64 0, .int .i64 800] rfl rfl 150 _ (hL.alloc (Nat.le_refl _) (Obj.cells #[.slice (some ⟨g, 0, none⟩) 1 1] 24)).1 (by kernel_rfl) (by kernel_rfl) (by kernel_rfl) ?_; have hM := (hL.alloc (Nat.le_refl _) (Obj.cells #[.slice (some ⟨g, 0, none⟩) 1 1] 24)).row (by omega) #[.string ⟨#[104, 101, 114, 101]⟩, .slice (some ⟨g, 0, none⟩) 1 1, .slice none 0 0, .int .i64 0, .int .i64 800]; replace hN2 := (hN2.alloc (by omega) (Obj.cells #[.slice (some ⟨g, 0, none⟩) 1 1] 24)).row_other (g := w.heap.size) (by omega) (by omega) #[.string ⟨#[104, 101, 114, 101]⟩, .slice (some ⟨g, 0, none⟩) 1 1, .slice none 0 0, .int .i64 0, .int .i64 800]; generalize World.setRow _ _ _ = W2 at hM hN2 ⊢)
  have e0 : (W2).cell? ⟨w.heap.size, 0, none⟩ = some (.string ⟨#[104, 101, 114, 101]⟩) := cell_of_row _ _ 0 _ _ _ hM.1
  have e1 : (W2).cell? ⟨w.heap.size, 1, none⟩ = some (.slice (some ⟨g, 0, none⟩) 1 1) := cell_of_row _ _ 1 _ _ _ hM.1
  have e2 : (W2).cell? ⟨w.heap.size, 2, none⟩ = some (.slice none 0 0) := cell_of_row _ _ 2 _ _ _ hM.1
  have e3 : (W2).cell? ⟨w.heap.size, 3, none⟩ = some (.int .i64 0) := cell_of_row _ _ 3 _ _ _ hM.1
  have e4 : (W2).cell? ⟨w.heap.size, 4, none⟩ = some (.int .i64 800) := cell_of_row _ _ 4 _ _ _ hM.1
  refine bodyPost_ret (v := .tuple #[.agg #[.string ⟨#[104, 101, 114, 101]⟩, .slice (some ⟨g, 0, none⟩) 1 1, .slice none 0 0, .int .i64 0, .int .i64 800], .int .i64 0]) (by simp [results, Tryz.results146, go_sem, e0, e1, e2, e3, e4]) rfl ?_
  exact ⟨⟨g, rfl, hN2.1, by omega⟩, hM.2⟩
set_option maxRecDepth 100000 in
theorem start_doc (w : World) : Calls Tryz.prog 112 #[.agg #[.string ⟨#[104, 101, 114, 101]⟩, .slice none 0 0, .int .i64 800, .slice none 0 0]] w fun e w' => DocP w e w' ∧ Below w.heap.size w w' := by
  go_enter Tryz.func112, Tryz.ntmps112
  go_wp2_with fail
  have hS := (Lies.new (w := w) (o := Obj.cells #[.string ⟨#[104, 101, 114, 101]⟩, .slice none 0 0, .int .i64 800, .slice none 0 0] 143) rfl).alloc (Nat.le_refl _) (Obj.cells #[.string ⟨#[]⟩, .slice none 0 0, .slice none 0 0, .int .i64 0, .int .i64 0] 150)
  have hR := (Lies.new (w := w) (o := Obj.cells #[.string ⟨#[104, 101, 114, 101]⟩, .slice none 0 0, .int .i64 800, .slice none 0 0] 143) rfl).next' (Obj.cells #[.string ⟨#[]⟩, .slice none 0 0, .slice none 0 0, .int .i64 0, .int .i64 0] 150)
  rw [World.size_alloc] at hR
  refine (new_doc _).mono ?_
  rintro e w1 ⟨⟨g, rfl, hN, hg⟩, hb⟩
  rw [World.size_alloc, World.size_alloc] at hg
  replace hS := hS.keep (Nat.le_refl _) hb
  replace hR := hR.keep (by omega) hb
  clear hb
  have hl := hR.lt
  have hl1 := hS.lt
  have hl2 := hN.lt
  have hN2 : Lies w.heap.size w w1 g (.cells #[.string ⟨#[104, 116, 109, 108]⟩, .slice none 0 0, .int .i64 (-1), .slice none 0 0] 132 (0, 0)) := ⟨hN, hR.2⟩
  have s0 : (w1).cell? ⟨w.heap.size, 0, none⟩ = some (.string ⟨#[104, 101, 114, 101]⟩) := cell_of_row _ _ 0 _ _ _ hS.1
  have s1 : (w1).cell? ⟨w.heap.size, 1, none⟩ = some (.slice none 0 0) := cell_of_row _ _ 1 _ _ _ hS.1
  have s2 : (w1).cell? ⟨w.heap.size, 2, none⟩ = some (.int .i64 800) := cell_of_row _ _ 2 _ _ _ hS.1
  have s3 : (w1).cell? ⟨w.heap.size, 3, none⟩ = some (.slice none 0 0) := cell_of_row _ _ 3 _ _ _ hS.1
  go_wp2_with fail
  refine Rounds.loop 1 ?_
  unfold Rounds
  go_wp2_with (refine wpList_store_row rfl 150 _ _ rfl _ #[.string ⟨#[104, 101, 114, 101]⟩, .slice (some ⟨g, 0, none⟩) 1 1, .slice none 0 0, .int .i64 0, .int .i64 800] rfl rfl 150 _ (hR.alloc (by omega) (Obj.cells #[.string ⟨#[104, 101, 114, 101]⟩, .slice (some ⟨g, 0, none⟩) 1 1, .slice none 0 0, .int .i64 0, .int .i64 800] 150)).1 (by kernel_rfl) (by kernel_rfl) (by kernel_rfl) ?_; have hM := (hR.alloc (by omega) (Obj.cells #[.string ⟨#[104, 101, 114, 101]⟩, .slice (some ⟨g, 0, none⟩) 1 1, .slice none 0 0, .int .i64 0, .int .i64 800] 150)).row (by omega) #[.string ⟨#[104, 101, 114, 101]⟩, .slice (some ⟨g, 0, none⟩) 1 1, .slice none 0 0, .int .i64 0, .int .i64 800]; replace hN2 := (hN2.alloc (by omega) (Obj.cells #[.string ⟨#[104, 101, 114, 101]⟩, .slice (some ⟨g, 0, none⟩) 1 1, .slice none 0 0, .int .i64 0, .int .i64 800] 150)).row_other (g := (w.heap.size + 1)) (by omega) (by omega) #[.string ⟨#[104, 101, 114, 101]⟩, .slice (some ⟨g, 0, none⟩) 1 1, .slice none 0 0, .int .i64 0, .int .i64 800]; generalize World.setRow _ _ _ = W2 at hM hN2 ⊢)
  have e0 : (W2).cell? ⟨(w.heap.size + 1), 0, none⟩ = some (.string ⟨#[104, 101, 114, 101]⟩) := cell_of_row _ _ 0 _ _ _ hM.1
  have e1 : (W2).cell? ⟨(w.heap.size + 1), 1, none⟩ = some (.slice (some ⟨g, 0, none⟩) 1 1) := cell_of_row _ _ 1 _ _ _ hM.1
  have e2 : (W2).cell? ⟨(w.heap.size + 1), 2, none⟩ = some (.slice none 0 0) := cell_of_row _ _ 2 _ _ _ hM.1
  have e3 : (W2).cell? ⟨(w.heap.size + 1), 3, none⟩ = some (.int .i64 0) := cell_of_row _ _ 3 _ _ _ hM.1
  have e4 : (W2).cell? ⟨(w.heap.size + 1), 4, none⟩ = some (.int .i64 800) := cell_of_row _ _ 4 _ _ _ hM.1
  refine bodyPost_ret (v := .tuple #[.agg #[.string ⟨#[104, 101, 114, 101]⟩, .slice (some ⟨g, 0, none⟩) 1 1, .slice none 0 0, .int .i64 0, .int .i64 800], .int .i64 0]) (by simp [results, Tryz.results112, go_sem, e0, e1, e2, e3, e4]) rfl ?_
  exact ⟨⟨g, rfl, hN2.1, by omega⟩, hM.2⟩
end Go.Proofs.YtgkamgijnhbcbaaGreatDoor
namespace Go.Proofs.YtgkamgijnhbcbaaGreatDoor
open Go.RowKit Go.Proofs
open Go.Vt
set_option maxRecDepth 100000 in
theorem begin_ok (X : Nat → Prop) (w0 w : World) (b : Nat) (h : LiesX X w0 w b (.cells #[.string ⟨#[]⟩, .slice none 0 0, .int .i64 0, .slice none 0 0, .string ⟨#[]⟩, .slice none 0 0, .slice none 0 0, .int .i64 0, .int .i64 0, .slice none 0 0] 152)) (hB : ¬ X b) : Calls Tryz.prog 87 #[.pointer (some ⟨b, 0, none⟩), .agg #[.string ⟨#[104, 101, 114, 101]⟩, .slice none 0 0, .int .i64 800, .slice none 0 0]] w fun e w' => e = .returned (.string ⟨#[111, 107]⟩) ∧ ∃ g, NodeAt w' g ∧ w.heap.size ≤ g ∧ LiesX X w0 w' b (.cells #[.string ⟨#[104, 101, 114, 101]⟩, .slice none 0 0, .int .i64 800, .slice none 0 0, .string ⟨#[104, 101, 114, 101]⟩, .slice (some ⟨g, 0, none⟩) 1 1, .slice none 0 0, .int .i64 0, .int .i64 800, .slice none 0 0] 152) := by
  have hlt := h.lt
  go_enter Tryz.func87, Tryz.ntmps87
  go_wp2_with fail
  have hD := h.alloc (Obj.cells #[.string ⟨#[104, 101, 114, 101]⟩, .slice none 0 0, .int .i64 800, .slice none 0 0] 143)
  have hS := (Lies.new (w := w) (o := Obj.cells #[.string ⟨#[104, 101, 114, 101]⟩, .slice none 0 0, .int .i64 800, .slice none 0 0] 143) rfl)
  refine (start_doc _).mono ?_
  rintro e w1 ⟨⟨g, rfl, hN, hg⟩, hb⟩
  rw [World.size_alloc] at hg
  replace hS := hS.keep (Nat.le_refl _) hb
  replace hD := hD.keep hb
  clear hb
  have hl := hS.lt
  have hl1 := hD.lt
  have hl2 := hN.lt
  have hne : g ≠ b := by omega
  have hN2 : LiesX X w0 w1 g (.cells #[.string ⟨#[104, 116, 109, 108]⟩, .slice none 0 0, .int .i64 (-1), .slice none 0 0] 132 (0, 0)) := ⟨hN, hD.2⟩
  have s0 : (w1).cell? ⟨w.heap.size, 0, none⟩ = some (.string ⟨#[104, 101, 114, 101]⟩) := cell_of_row _ _ 0 _ _ _ hS.1
  have s1 : (w1).cell? ⟨w.heap.size, 1, none⟩ = some (.slice none 0 0) := cell_of_row _ _ 1 _ _ _ hS.1
  have s2 : (w1).cell? ⟨w.heap.size, 2, none⟩ = some (.int .i64 800) := cell_of_row _ _ 2 _ _ _ hS.1
  have s3 : (w1).cell? ⟨w.heap.size, 3, none⟩ = some (.slice none 0 0) := cell_of_row _ _ 3 _ _ _ hS.1
  have d0 : (w1).cell? ⟨b, 0, none⟩ = some (.string ⟨#[]⟩) := cell_of_row _ _ 0 _ _ _ hD.1
  have d1 : (w1).cell? ⟨b, 1, none⟩ = some (.slice none 0 0) := cell_of_row _ _ 1 _ _ _ hD.1
  have d2 : (w1).cell? ⟨b, 2, none⟩ = some (.int .i64 0) := cell_of_row _ _ 2 _ _ _ hD.1
  have d3 : (w1).cell? ⟨b, 3, none⟩ = some (.slice none 0 0) := cell_of_row _ _ 3 _ _ _ hD.1
  have d4 : (w1).cell? ⟨b, 4, none⟩ = some (.string ⟨#[]⟩) := cell_of_row _ _ 4 _ _ _ hD.1
  have d5 : (w1).cell? ⟨b, 5, none⟩ = some (.slice none 0 0) := cell_of_row _ _ 5 _ _ _ hD.1
  have d6 : (w1).cell? ⟨b, 6, none⟩ = some (.slice none 0 0) := cell_of_row _ _ 6 _ _ _ hD.1
  have d7 : (w1).cell? ⟨b, 7, none⟩ = some (.int .i64 0) := cell_of_row _ _ 7 _ _ _ hD.1
  have d8 : (w1).cell? ⟨b, 8, none⟩ = some (.int .i64 0) := cell_of_row _ _ 8 _ _ _ hD.1
  have d9 : (w1).cell? ⟨b, 9, none⟩ = some (.slice none 0 0) := cell_of_row _ _ 9 _ _ _ hD.1
  have hf : ∀ j, w1.frozen? ⟨b, j, none⟩ = false := fun j => by simp [World.frozen?, hD.1]
  go_wp2_with fail
  go_region
  have hE : LiesX X w0 _ b (.cells #[.string ⟨#[104, 101, 114, 101]⟩, .slice none 0 0, .int .i64 800, .slice none 0 0, .string ⟨#[104, 101, 114, 101]⟩, .slice (some ⟨g, 0, none⟩) 1 1, .slice none 0 0, .int .i64 0, .int .i64 800, .slice none 0 0] 152 (0, 0)) := ((((((((((hD.cell hB 0 (.string ⟨#[104, 101, 114, 101]⟩)).cell hB 1 (.slice none 0 0)).cell hB 2 (.int .i64 800)).cell hB 3 (.slice none 0 0)).cell hB 4 (.string ⟨#[104, 101, 114, 101]⟩)).cell hB 5 (.slice (some ⟨g, 0, none⟩) 1 1)).cell hB 6 (.slice none 0 0)).cell hB 7 (.int .i64 0)).cell hB 8 (.int .i64 800)).alloc (Obj.cells #[.string ⟨#[104, 101, 114, 101]⟩, .slice (some ⟨g, 0, none⟩) 1 1, .slice none 0 0, .int .i64 0, .int .i64 800] 150)).drew
  have hM := ((((((((((hN2.cell_other hB hne 0 (.string ⟨#[104, 101, 114, 101]⟩)).cell_other hB hne 1 (.slice none 0 0)).cell_other hB hne 2 (.int .i64 800)).cell_other hB hne 3 (.slice none 0 0)).cell_other hB hne 4 (.string ⟨#[104, 101, 114, 101]⟩)).cell_other hB hne 5 (.slice (some ⟨g, 0, none⟩) 1 1)).cell_other hB hne 6 (.slice none 0 0)).cell_other hB hne 7 (.int .i64 0)).cell_other hB hne 8 (.int .i64 800)).alloc (Obj.cells #[.string ⟨#[104, 101, 114, 101]⟩, .slice (some ⟨g, 0, none⟩) 1 1, .slice none 0 0, .int .i64 0, .int .i64 800] 150)).drew
  go_wp2_with fail
  go_ret
  exact ⟨rfl, g, hM.1, by omega, hE⟩
end Go.Proofs.YtgkamgijnhbcbaaGreatDoor
namespace Go.Proofs.YtgkamgijnhbcbaaGreatDoor
open Go.RowKit Go.Proofs
open Go.Vt
set_option maxRecDepth 100000 in
theorem store_check (w : World) : Calls Tryz.prog 180 #[.agg #[.slice none 0 0, .int .i64 0]] w fun e w' => e = .returned (.int .i64 0) ∧ Below w.heap.size w w' := by
  go_enter Tryz.func180, Tryz.ntmps180
  go_wp2_with fail
  refine Rounds.loop 1 ?_
  unfold Rounds
  go_wp2_with fail
  go_ret
  exact ⟨rfl, (Below.refl _ _).alloc (Nat.le_refl _) _⟩
set_option maxRecDepth 100000 in
theorem valid_doc (w : World) (g : Nat) (c : Nat) (hc : 1 ≤ c) (h : Node w g) : Calls Tryz.prog 186 #[.agg #[.string ⟨#[104, 101, 114, 101]⟩, .slice (some ⟨g, 0, none⟩) 1 c, .slice none 0 0, .int .i64 0, .int .i64 800]] w fun e w' => e = .returned (.int .i64 0) ∧ Below w.heap.size w w' := by
  go_enter Tryz.func186, Tryz.ntmps186
  go_wp2_with fail
  have hD := Lies.new (w := w) (o := (Obj.cells #[.string ⟨#[104, 101, 114, 101]⟩, .slice (some ⟨g, 0, none⟩) 1 c, .slice none 0 0, .int .i64 0, .int .i64 800] 150)) rfl
  refine (check_one _ g c hc (h.alloc _)).mono ?_
  rintro e w1 ⟨rfl, hb⟩
  replace hD := hD.keep (Nat.le_refl _) hb
  clear hb
  have d0 : (w1).cell? ⟨w.heap.size, 0, none⟩ = some (.string ⟨#[104, 101, 114, 101]⟩) := cell_of_row _ _ 0 _ _ _ hD.1
  have d1 : (w1).cell? ⟨w.heap.size, 1, none⟩ = some (.slice (some ⟨g, 0, none⟩) 1 c) := cell_of_row _ _ 1 _ _ _ hD.1
  have d2 : (w1).cell? ⟨w.heap.size, 2, none⟩ = some (.slice none 0 0) := cell_of_row _ _ 2 _ _ _ hD.1
  have d3 : (w1).cell? ⟨w.heap.size, 3, none⟩ = some (.int .i64 0) := cell_of_row _ _ 3 _ _ _ hD.1
  have d4 : (w1).cell? ⟨w.heap.size, 4, none⟩ = some (.int .i64 800) := cell_of_row _ _ 4 _ _ _ hD.1
  go_wp2_with fail
  clear d0 d1 d2 d3 d4
  refine (store_check _).mono ?_
  rintro e w2 ⟨rfl, hb⟩
  replace hD := hD.keep (Nat.le_refl _) hb
  clear hb
  have d0 : (w2).cell? ⟨w.heap.size, 0, none⟩ = some (.string ⟨#[104, 101, 114, 101]⟩) := cell_of_row _ _ 0 _ _ _ hD.1
  have d1 : (w2).cell? ⟨w.heap.size, 1, none⟩ = some (.slice (some ⟨g, 0, none⟩) 1 c) := cell_of_row _ _ 1 _ _ _ hD.1
  have d2 : (w2).cell? ⟨w.heap.size, 2, none⟩ = some (.slice none 0 0) := cell_of_row _ _ 2 _ _ _ hD.1
  have d3 : (w2).cell? ⟨w.heap.size, 3, none⟩ = some (.int .i64 0) := cell_of_row _ _ 3 _ _ _ hD.1
  have d4 : (w2).cell? ⟨w.heap.size, 4, none⟩ = some (.int .i64 800) := cell_of_row _ _ 4 _ _ _ hD.1
  go_wp2_with fail
  go_ret
  exact ⟨rfl, hD.2⟩
set_option maxRecDepth 100000 in
theorem number_ok (w : World) : Calls Tryz.prog 251 #[.int .i64 1] w fun e w' => e = .returned (.agg #[.int .i64 0, .int .i64 1, .slice none 0 0, .slice none 0 0]) ∧ Below w.heap.size w w' := by
  go_enter Tryz.func251, Tryz.ntmps251
  go_wp2_with fail
  have hL := Lies.new (w := w) (o := Obj.cells #[.int .i64 0, .int .i64 1, .slice none 0 0, .slice none 0 0] 229) rfl
  refine bodyPost_ret (results_cell_row rfl _ _ w.heap.size 229 _ (0, 0) _ rfl hL.1 (Tryz.underlying229) rfl (by kernel_rfl)) rfl ⟨rfl, hL.2⟩
set_option maxRecDepth 100000 in
theorem clone34 (w : World) : Calls Tryz.prog 395 #[.slice none 0 0] w fun e w' => e = .returned (.slice none 0 0) ∧ w' = w := by
  have hn : ∀ W : World, (binOp .eql 130 (.slice none 0 0) (.slice none 0 0)).run Tryz.prog W = .ok (.bool true) W := by intro W; kernel_rfl
  go_enter Tryz.func395, Tryz.ntmps395
  go_wp2
  go_ret
  exact ⟨rfl, rfl⟩
set_option maxRecDepth 100000 in
theorem clone35 (w : World) : Calls Tryz.prog 83 #[.slice none 0 0] w fun e w' => e = .returned (.slice none 0 0) ∧ w' = w := by
  have hn : ∀ W : World, (binOp .eql 34 (.slice none 0 0) (.slice none 0 0)).run Tryz.prog W = .ok (.bool true) W := by intro W; kernel_rfl
  go_enter Tryz.func83, Tryz.ntmps83
  go_wp2
  go_ret
  exact ⟨rfl, rfl⟩
end Go.Proofs.YtgkamgijnhbcbaaGreatDoor
namespace Go.Proofs.YtgkamgijnhbcbaaGreatDoor
open Go.RowKit Go.Proofs
open Go.Vt
theorem Node.of_row {B : Nat} {w W : World} {g : Nat} {Z : Array Value} (h : Lies B w W g (.cells (#[.string ⟨#[104, 116, 109, 108]⟩, .slice none 0 0, .int .i64 (-1), .slice none 0 0] ++ Z) 132 (0, 0))) : Node W g :=
  ⟨h.lt, (cell_of_row _ _ 0 _ _ _ h.1).trans ((Array.getElem?_append_left (by decide)).trans rfl), (cell_of_row _ _ 1 _ _ _ h.1).trans ((Array.getElem?_append_left (by decide)).trans rfl), (cell_of_row _ _ 2 _ _ _ h.1).trans ((Array.getElem?_append_left (by decide)).trans rfl), (cell_of_row _ _ 3 _ _ _ h.1).trans ((Array.getElem?_append_left (by decide)).trans rfl)⟩
/-- A document like it, in new memory. -/
def TwinP (e : Ending) (w' : World) : Prop := ∃ g c, e = .returned (.tuple #[.agg #[.string ⟨#[104, 101, 114, 101]⟩, .slice (some ⟨g, 0, none⟩) 1 c, .slice none 0 0, .int .i64 0, .int .i64 800], .int .i64 0]) ∧ 1 ≤ c ∧ Node w' g
set_option maxRecDepth 100000 in
theorem twin_doc (w : World) (g c : Nat) (_hc : 1 ≤ c) (h : Node w g) : Calls Tryz.prog 187 #[.agg #[.string ⟨#[104, 101, 114, 101]⟩, .slice (some ⟨g, 0, none⟩) 1 c, .slice none 0 0, .int .i64 0, .int .i64 800]] w fun e w' => TwinP e w' ∧ Below w.heap.size w w' := by
  obtain ⟨hlt, n0, n1, n2, n3⟩ := id h
  have hl1 : g < w.heap.size + 1 := by omega
  have hl2 : g < w.heap.size + 1 + 1 := by omega
  have hl3 : g < w.heap.size + 1 + 1 + 1 := by omega
  go_enter Tryz.func187, Tryz.ntmps187
  go_wp2_with fail
  refine Rounds.loop 2 ?_
  unfold Rounds
  go_wp2_with fail
  have hcc : 1 ≤ (Question.appendCap 1 0 132).cut (w.tape w.drawn (Question.appendCap 1 0 132)) := grownCap_ge w 1 0 132
  generalize (Question.appendCap 1 0 132).cut _ = cc at hcc ⊢
  unfold Rounds
  go_wp2_with fail
  refine Rounds.loop 1 ?_
  unfold Rounds
  go_wp2_with fail
  refine bodyPost_ret (v := .tuple #[.agg #[.string ⟨#[104, 101, 114, 101]⟩, .slice (some ⟨(w.heap.size + 1 + 1 + 1 + 1 + 1), 0, none⟩) 1 cc, .slice none 0 0, .int .i64 0, .int .i64 800], .int .i64 0]) (by simp [results, Tryz.results187, go_sem]) rfl ?_
  refine ⟨⟨_, _, rfl, hcc, Node.of_row (Z := Builtin.zeroCells #[.string ⟨#[]⟩, .slice none 0 0, .int .i64 0, .slice none 0 0] (cc - 1)) (B := w.heap.size) (w := w) ?_⟩, ?_⟩
  · repeat (first | exact Lies.here (by simp) (by omega) (by repeat (first | exact Below.refl _ _ | refine below_drew ?_ | refine below_alloc _ ?_ (by simp <;> omega))) | refine Lies.drew ?_ | refine Lies.alloc ?_ (by omega) _)
  · repeat (first | exact Below.refl _ _ | refine below_drew ?_ | refine below_alloc _ ?_ (by simp <;> omega))
end Go.Proofs.YtgkamgijnhbcbaaGreatDoor
