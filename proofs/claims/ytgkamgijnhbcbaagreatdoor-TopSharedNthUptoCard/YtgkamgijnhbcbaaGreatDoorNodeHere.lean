/- tree.Check at one node of the name html. -/
import Derived.Test.YtgkamgijnhbcbaaGreatDoorMaps
import Derived.Test.YtgkamgijnhbcbaaGreatDoorGen
import Derived.Test.YtgkamgijnhbcbaaGreatDoorNodeIndex
import Derived.WalkKit
import Derived.WalkSpells
import Derived.WalkLawsBesides
namespace Go.Proofs.YtgkamgijnhbcbaaGreatDoor
open Go.RowKit Go.Proofs
open Go.Vt
/-- The one node of a new tree. -/
def NodeAt (w : World) (g : Nat) : Prop := w.heap[g]? = some (.cells #[.string ⟨#[104, 116, 109, 108]⟩, .slice none 0 0, .int .i64 (-1), .slice none 0 0] 132 (0, 0))
theorem NodeAt.lt {w : World} {g : Nat} (h : NodeAt w g) : g < w.heap.size := (Array.getElem?_eq_some_iff.1 h).1
theorem NodeAt.keep {w w' : World} {g : Nat} (h : NodeAt w g) (hb : Below w.heap.size w w') : NodeAt w' g := (hb.block g h.lt).trans h
theorem NodeAt.alloc {w : World} {g : Nat} (h : NodeAt w g) (x : Obj) : NodeAt (w.alloc x) g := h.keep ((Below.refl _ _).alloc (Nat.le_refl _) x)
/-- The one node of a tree, cell by cell. -/
structure Node (w : World) (g : Nat) : Prop where
  lt : g < w.heap.size
  c0 : w.cell? ⟨g, 0, none⟩ = some (.string ⟨#[104, 116, 109, 108]⟩)
  c1 : w.cell? ⟨g, 1, none⟩ = some (.slice none 0 0)
  c2 : w.cell? ⟨g, 2, none⟩ = some (.int .i64 (-1))
  c3 : w.cell? ⟨g, 3, none⟩ = some (.slice none 0 0)
theorem NodeAt.node {w : World} {g : Nat} (h : NodeAt w g) : Node w g := ⟨h.lt, cell_of_row _ _ 0 _ _ _ h, cell_of_row _ _ 1 _ _ _ h, cell_of_row _ _ 2 _ _ _ h, cell_of_row _ _ 3 _ _ _ h⟩
theorem Node.keep {w w' : World} {g : Nat} (h : Node w g) (hb : Below w.heap.size w w') : Node w' g :=
  ⟨Nat.lt_of_lt_of_le h.lt hb.size, (hb.cell (p := ⟨g, 0, none⟩) h.lt).trans h.c0, (hb.cell (p := ⟨g, 1, none⟩) h.lt).trans h.c1, (hb.cell (p := ⟨g, 2, none⟩) h.lt).trans h.c2, (hb.cell (p := ⟨g, 3, none⟩) h.lt).trans h.c3⟩
theorem Node.alloc {w : World} {g : Nat} (h : Node w g) (x : Obj) : Node (w.alloc x) g := h.keep ((Below.refl _ _).alloc (Nat.le_refl _) x)
set_option maxRecDepth 100000 in
theorem attrs_nil (w : World) : Calls Tryz.prog 97 #[.slice none 0 0] w fun e w' => e = .returned (.bool true) ∧ w' = w := by
  go_enter Tryz.func97, Tryz.ntmps97
  go_wp2_with fail
  refine Rounds.loop 1 ?_
  unfold Rounds
  go_wp2_with fail
  go_ret
  exact ⟨rfl, rfl⟩
set_option maxRecDepth 100000 in
theorem linked_one (w : World) (g : Nat) (c : Nat) (_hc : 1 ≤ c) (h : Node w g) : Calls Tryz.prog 98 #[.agg #[.slice (some ⟨g, 0, none⟩) 1 c], .int .i64 0] w fun e w' => e = .returned (.bool true) ∧ Below w.heap.size w w' := by
  have hl := h.lt
  obtain ⟨_, n0, n1, n2, n3⟩ := id h
  have hm : ∀ W : World, (Instr.makeSlice 45 (.int .i64 1) (.int .i64 1)).run Tryz.prog W = .ok (.slice (some ⟨W.heap.size, 0, none⟩) 1 1) (W.alloc (Obj.cells #[.bool false] 4)) := by intro W; kernel_rfl
  go_enter Tryz.func98, Tryz.ntmps98
  go_wp2_with fail
  refine Rounds.loop 1 ?_
  unfold Rounds
  go_wp2_with fail
  go_ret
  exact ⟨rfl, (((Below.refl _ _).alloc (Nat.le_refl _) _).alloc (by simp) _).alloc (by simp <;> omega) _⟩
theorem namedB_html : namedB ⟨#[104, 116, 109, 108]⟩ = true := (namedB_iff _).2 ⟨by decide, by decide, fun _ => by decide +revert, by decide⟩
theorem namedB_p : namedB ⟨#[112]⟩ = true := (namedB_iff _).2 ⟨by decide, by decide, fun _ => by decide +revert, by decide⟩
theorem named_html (w : World) : Calls Tryz.prog 96 #[.string ⟨#[104, 116, 109, 108]⟩] w fun e w' => e = .returned (.bool true) ∧ w' = w := by
  have h := named_is ⟨#[104, 116, 109, 108]⟩ w
  rwa [namedB_html] at h
theorem named_p (w : World) : Calls Tryz.prog 96 #[.string ⟨#[112]⟩] w fun e w' => e = .returned (.bool true) ∧ w' = w := by
  have h := named_is ⟨#[112]⟩ w
  rwa [namedB_p] at h
set_option maxRecDepth 100000 in
theorem check_one (w : World) (g : Nat) (c : Nat) (hc : 1 ≤ c) (h : Node w g) : Calls Tryz.prog 69 #[.agg #[.slice (some ⟨g, 0, none⟩) 1 c]] w fun e w' => e = .returned (.int .i64 0) ∧ Below w.heap.size w w' := by
  have hl := h.lt
  obtain ⟨_, n0, n1, n2, n3⟩ := id h
  go_enter Tryz.func69, Tryz.ntmps69
  go_wp2_with fail
  refine Rounds.loop 2 ?_
  unfold Rounds
  go_wp2_with (first | (go_at_call 96; refine (named_html _).mono ?_; rintro e w1 ⟨rfl, rfl⟩) | (go_at_call 97; refine (attrs_nil _).mono ?_; rintro e w1 ⟨rfl, rfl⟩))
  refine (linked_one _ g c hc ((h.alloc _).alloc _)).mono ?_
  rintro e w1 ⟨rfl, hb⟩
  have hA := ((Lies.new (w := w) (o := Obj.cells #[.slice (some ⟨g, 0, none⟩) 1 c] 24) rfl).alloc (Nat.le_refl _) _).keep (Nat.le_refl _) hb
  have hn := ((h.alloc _).alloc _).keep hb
  have hl1 := hn.lt
  have hl2 := hA.lt
  obtain ⟨_, m0, m1, m2, m3⟩ := id hn
  have a0 : w1.cell? ⟨w.heap.size, 0, none⟩ = some (.slice (some ⟨g, 0, none⟩) 1 c) := cell_of_row _ _ 0 _ _ _ hA.1
  clear hb
  go_wp2_with fail
  unfold Rounds
  go_wp2_with fail
  refine Rounds.loop 2 ?_
  unfold Rounds
  go_wp2_with fail
  refine Rounds.loop 2 ?_
  unfold Rounds
  go_wp2_with fail
  unfold Rounds
  go_wp2_with fail
  unfold Rounds
  go_wp2_with fail
  go_ret
  exact ⟨rfl, hA.2⟩
end Go.Proofs.YtgkamgijnhbcbaaGreatDoor
