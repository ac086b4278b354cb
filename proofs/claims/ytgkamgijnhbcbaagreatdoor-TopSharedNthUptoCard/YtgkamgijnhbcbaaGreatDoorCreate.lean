/- script: create an element. -/
import Derived.Test.YtgkamgijnhbcbaaGreatDoorAddHere
import Derived.WalkKit
import Derived.WalkSpells
import Derived.WalkLawsBesides
import Derived.Deep.RegionWith
import Derived.RegionTactic
namespace Go.Proofs.YtgkamgijnhbcbaaGreatDoor
open Go.RowKit Go.Proofs
open Go.Vt
set_option maxRecDepth 100000 in
theorem number_is (w : World) : Calls Tryz.prog 251 #[.int .i64 1] w fun e w' => e = .returned (.agg #[.int .i64 0, .int .i64 1, .slice none 0 0, .slice none 0 0]) ∧ w' = w.alloc (Obj.cells #[.int .i64 0, .int .i64 1, .slice none 0 0, .slice none 0 0] 229) := by
  go_enter Tryz.func251, Tryz.ntmps251
  go_wp2_with fail
  refine bodyPost_ret (results_cell_row rfl _ _ w.heap.size 229 _ (0, 0) _ rfl (heap_alloc_new _ _) (Tryz.underlying229) rfl (by kernel_rfl)) rfl ⟨rfl, rfl⟩
/-- A document, an answer, no error. -/
def CreateP (e : Ending) : Prop := ∃ a n c, e = .returned (.tuple #[.agg #[.string ⟨#[104, 101, 114, 101]⟩, .slice a n c, .slice none 0 0, .int .i64 0, .int .i64 800], .agg #[.int .i64 0, .int .i64 1, .slice none 0 0, .slice none 0 0], .int .i64 0])
set_option maxRecDepth 100000 in
set_option maxHeartbeats 2000000 in
theorem create_ok (w : World) (g c : Nat) (hc : 1 ≤ c) (h : Node w g) : Calls Tryz.prog 228 #[.agg #[.string ⟨#[104, 101, 114, 101]⟩, .slice (some ⟨g, 0, none⟩) 1 c, .slice none 0 0, .int .i64 0, .int .i64 800], .agg #[.int .u8 1, .int .i64 0, .int .i64 0, .string ⟨#[112]⟩, .string ⟨#[]⟩]] w fun e w' => CreateP e ∧ Below w.heap.size w w' := by
  go_enter Tryz.func228, Tryz.ntmps228
  go_wp2_with fail
  refine (add_doc _ g c hc ((((h.alloc _).alloc _).alloc _).alloc _)).mono ?_
  rintro e w1 ⟨⟨a, n, cc, rfl⟩, hb⟩
  have hB := Lies.keep ((by repeat (first | exact Lies.here (by simp) (by omega) (by repeat (first | exact Below.refl _ _ | refine below_drew ?_ | refine below_alloc _ ?_ (by first | omega | (simp <;> omega)))) | refine Lies.drew ?_ | refine Lies.alloc ?_ (by omega) _)) : Lies w.heap.size w _ w.heap.size (.cells #[.string ⟨#[104, 101, 114, 101]⟩, .slice (some ⟨g, 0, none⟩) 1 c, .slice none 0 0, .int .i64 0, .int .i64 800] 150 (0, 0))) (by omega) hb
  have hO := Lies.keep ((by repeat (first | exact Lies.here (by simp) (by omega) (by repeat (first | exact Below.refl _ _ | refine below_drew ?_ | refine below_alloc _ ?_ (by first | omega | (simp <;> omega)))) | refine Lies.drew ?_ | refine Lies.alloc ?_ (by omega) _)) : Lies w.heap.size w _ (w.heap.size + 1 + 1) (.cells #[.string ⟨#[]⟩, .slice none 0 0, .slice none 0 0, .int .i64 0, .int .i64 0] 150 (0, 0))) (by omega) hb
  have hP := Lies.keep ((by repeat (first | exact Lies.here (by simp) (by omega) (by repeat (first | exact Below.refl _ _ | refine below_drew ?_ | refine below_alloc _ ?_ (by first | omega | (simp <;> omega)))) | refine Lies.drew ?_ | refine Lies.alloc ?_ (by omega) _)) : Lies w.heap.size w _ (w.heap.size + 1 + 1 + 1) (.cells #[.int .i64 0, .int .i64 0, .slice none 0 0, .slice none 0 0] 229 (0, 0))) (by omega) hb
  clear hb
  have b0 : (w1).cell? ⟨w.heap.size, 0, none⟩ = some (.string ⟨#[104, 101, 114, 101]⟩) := cell_of_row _ _ 0 _ _ _ hB.1
  have b1 : (w1).cell? ⟨w.heap.size, 1, none⟩ = some (.slice (some ⟨g, 0, none⟩) 1 c) := cell_of_row _ _ 1 _ _ _ hB.1
  have b2 : (w1).cell? ⟨w.heap.size, 2, none⟩ = some (.slice none 0 0) := cell_of_row _ _ 2 _ _ _ hB.1
  have b3 : (w1).cell? ⟨w.heap.size, 3, none⟩ = some (.int .i64 0) := cell_of_row _ _ 3 _ _ _ hB.1
  have b4 : (w1).cell? ⟨w.heap.size, 4, none⟩ = some (.int .i64 800) := cell_of_row _ _ 4 _ _ _ hB.1
  have o0 : (w1).cell? ⟨(w.heap.size + 1 + 1), 0, none⟩ = some (.string ⟨#[]⟩) := cell_of_row _ _ 0 _ _ _ hO.1
  have o1 : (w1).cell? ⟨(w.heap.size + 1 + 1), 1, none⟩ = some (.slice none 0 0) := cell_of_row _ _ 1 _ _ _ hO.1
  have o2 : (w1).cell? ⟨(w.heap.size + 1 + 1), 2, none⟩ = some (.slice none 0 0) := cell_of_row _ _ 2 _ _ _ hO.1
  have o3 : (w1).cell? ⟨(w.heap.size + 1 + 1), 3, none⟩ = some (.int .i64 0) := cell_of_row _ _ 3 _ _ _ hO.1
  have o4 : (w1).cell? ⟨(w.heap.size + 1 + 1), 4, none⟩ = some (.int .i64 0) := cell_of_row _ _ 4 _ _ _ hO.1
  have p0 : (w1).cell? ⟨(w.heap.size + 1 + 1 + 1), 0, none⟩ = some (.int .i64 0) := cell_of_row _ _ 0 _ _ _ hP.1
  have p1 : (w1).cell? ⟨(w.heap.size + 1 + 1 + 1), 1, none⟩ = some (.int .i64 0) := cell_of_row _ _ 1 _ _ _ hP.1
  have p2 : (w1).cell? ⟨(w.heap.size + 1 + 1 + 1), 2, none⟩ = some (.slice none 0 0) := cell_of_row _ _ 2 _ _ _ hP.1
  have p3 : (w1).cell? ⟨(w.heap.size + 1 + 1 + 1), 3, none⟩ = some (.slice none 0 0) := cell_of_row _ _ 3 _ _ _ hP.1
  have bf : ∀ j, w1.frozen? ⟨w.heap.size, j, none⟩ = false := fun j => by simp [World.frozen?, hB.1]
  have of : ∀ j, w1.frozen? ⟨(w.heap.size + 1 + 1), j, none⟩ = false := fun j => by simp [World.frozen?, hO.1]
  have pf : ∀ j, w1.frozen? ⟨(w.heap.size + 1 + 1 + 1), j, none⟩ = false := fun j => by simp [World.frozen?, hP.1]
  have l0 := hB.lt
  have l2 := hO.lt
  have l3 := hP.lt
  have l0a : w.heap.size < w1.heap.size + 1 := by omega
  have l2a : (w.heap.size + 1 + 1) < w1.heap.size + 1 := by omega
  have l3a : (w.heap.size + 1 + 1 + 1) < w1.heap.size + 1 := by omega
  go_wp2_with fail
  go_region_with (go_at_call 251; refine (number_is _).mono ?_; rintro e w2 ⟨rfl, rfl⟩)
  all_goals
    have hO2 : Lies w.heap.size w _ (w.heap.size + 1 + 1) (.cells #[.string ⟨#[104, 101, 114, 101]⟩, .slice a n cc, .slice none 0 0, .int .i64 0, .int .i64 800] 150 (0, 0)) := ((((((((((((hO.cell_other (g := w.heap.size) (by omega) (by omega) 1 (.slice a n cc)).cell (by omega) 0 (.string ⟨#[104, 101, 114, 101]⟩)).cell (by omega) 1 (.slice a n cc)).cell (by omega) 2 (.slice none 0 0)).cell (by omega) 3 (.int .i64 0)).cell (by omega) 4 (.int .i64 800)).cell_other (g := (w.heap.size + 1 + 1 + 1)) (by omega) (by omega) 0 (.int .i64 0)).cell_other (g := (w.heap.size + 1 + 1 + 1)) (by omega) (by omega) 1 (.int .i64 1)).cell_other (g := (w.heap.size + 1 + 1 + 1)) (by omega) (by omega) 2 (.slice none 0 0)).cell_other (g := (w.heap.size + 1 + 1 + 1)) (by omega) (by omega) 3 (.slice none 0 0)).alloc (by omega) (Obj.cells #[.slice a n cc] 24)).alloc (by omega) (Obj.cells #[.int .i64 0, .int .i64 1, .slice none 0 0, .slice none 0 0] 229)).drew
    have hP2 : Lies w.heap.size w _ (w.heap.size + 1 + 1 + 1) (.cells #[.int .i64 0, .int .i64 1, .slice none 0 0, .slice none 0 0] 229 (0, 0)) := ((((((((((((hP.cell_other (g := w.heap.size) (by omega) (by omega) 1 (.slice a n cc)).cell_other (g := (w.heap.size + 1 + 1)) (by omega) (by omega) 0 (.string ⟨#[104, 101, 114, 101]⟩)).cell_other (g := (w.heap.size + 1 + 1)) (by omega) (by omega) 1 (.slice a n cc)).cell_other (g := (w.heap.size + 1 + 1)) (by omega) (by omega) 2 (.slice none 0 0)).cell_other (g := (w.heap.size + 1 + 1)) (by omega) (by omega) 3 (.int .i64 0)).cell_other (g := (w.heap.size + 1 + 1)) (by omega) (by omega) 4 (.int .i64 800)).cell (by omega) 0 (.int .i64 0)).cell (by omega) 1 (.int .i64 1)).cell (by omega) 2 (.slice none 0 0)).cell (by omega) 3 (.slice none 0 0)).alloc (by omega) (Obj.cells #[.slice a n cc] 24)).alloc (by omega) (Obj.cells #[.int .i64 0, .int .i64 1, .slice none 0 0, .slice none 0 0] 229)).drew
    go_wp2_with fail
    generalize World.drew _ = W at hO2 hP2 ⊢
    have x0 : (W).cell? ⟨(w.heap.size + 1 + 1), 0, none⟩ = some (.string ⟨#[104, 101, 114, 101]⟩) := cell_of_row _ _ 0 _ _ _ hO2.1
    have x1 : (W).cell? ⟨(w.heap.size + 1 + 1), 1, none⟩ = some (.slice a n cc) := cell_of_row _ _ 1 _ _ _ hO2.1
    have x2 : (W).cell? ⟨(w.heap.size + 1 + 1), 2, none⟩ = some (.slice none 0 0) := cell_of_row _ _ 2 _ _ _ hO2.1
    have x3 : (W).cell? ⟨(w.heap.size + 1 + 1), 3, none⟩ = some (.int .i64 0) := cell_of_row _ _ 3 _ _ _ hO2.1
    have x4 : (W).cell? ⟨(w.heap.size + 1 + 1), 4, none⟩ = some (.int .i64 800) := cell_of_row _ _ 4 _ _ _ hO2.1
    have y0 : (W).cell? ⟨(w.heap.size + 1 + 1 + 1), 0, none⟩ = some (.int .i64 0) := cell_of_row _ _ 0 _ _ _ hP2.1
    have y1 : (W).cell? ⟨(w.heap.size + 1 + 1 + 1), 1, none⟩ = some (.int .i64 1) := cell_of_row _ _ 1 _ _ _ hP2.1
    have y2 : (W).cell? ⟨(w.heap.size + 1 + 1 + 1), 2, none⟩ = some (.slice none 0 0) := cell_of_row _ _ 2 _ _ _ hP2.1
    have y3 : (W).cell? ⟨(w.heap.size + 1 + 1 + 1), 3, none⟩ = some (.slice none 0 0) := cell_of_row _ _ 3 _ _ _ hP2.1
    refine bodyPost_ret (v := .tuple #[.agg #[.string ⟨#[104, 101, 114, 101]⟩, .slice a n cc, .slice none 0 0, .int .i64 0, .int .i64 800], .agg #[.int .i64 0, .int .i64 1, .slice none 0 0, .slice none 0 0], .int .i64 0]) (by simp [results, Tryz.results228, go_sem, x0, x1, x2, x3, x4, y0, y1, y2, y3]) rfl ⟨⟨_, _, _, rfl⟩, hO2.2⟩
end Go.Proofs.YtgkamgijnhbcbaaGreatDoor
