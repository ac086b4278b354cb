/- The console: the answer of a line. -/
import Derived.Test.YtgkamgijnhbcbaaGreatDoorBuilder
import Derived.Test.YtgkamgijnhbcbaaGreatDoorForms
import Derived.WalkKit
import Derived.WalkSpells
import Derived.WalkLawsBesides
import Derived.Deep.RegionWith
import Derived.RegionTactic
import Derived.Test.YtgkamgijnhbcbaaGreatDoorGen
namespace Go.Proofs.YtgkamgijnhbcbaaGreatDoor
open Go.RowKit Go.Proofs
open Go.Vt
set_option maxRecDepth 100000 in
theorem join_nil (w : World) : Calls Tryz.prog 160 #[.slice none 0 0, .string ⟨#[44, 32]⟩] w fun e w' => e = .returned (.string ⟨#[]⟩) ∧ w' = w := by
  go_enter Tryz.func160, Tryz.ntmps160
  go_wp2
  go_ret
  exact ⟨rfl, rfl⟩
set_option maxRecDepth 100000 in
theorem list_nil (w : World) : Calls Tryz.prog 192 #[.slice none 0 0] w fun e w' => e = .returned (.string ⟨#[91, 93]⟩) ∧ w' = w := by
  go_enter Tryz.func192, Tryz.ntmps192
  go_wp2_with (go_at_call 160; refine (join_nil _).mono ?_; rintro e w1 ⟨rfl, rfl⟩)
  go_ret
  exact ⟨by kernel_rfl, rfl⟩
def Row4 (w : World) (s : Nat) : Prop := w.heap[s]? = some (.cells #[.string ⟨#[48]⟩, .string ⟨#[49]⟩, .string ⟨#[91, 93]⟩, .string ⟨#[91, 93]⟩] 9 (0, 0))
theorem Row4.lt {w : World} {s : Nat} (h : Row4 w s) : s < w.heap.size := (Array.getElem?_eq_some_iff.1 h).1
theorem Row4.keep {B : Nat} {w w' : World} {s : Nat} (h : Row4 w s) (hs : s < B) (hb : Below B w w') : Row4 w' s := (hb.block s hs).trans h
set_option maxRecDepth 100000 in
set_option maxHeartbeats 2000000 in
theorem join_four (w : World) (s : Nat) (h : Row4 w s) : Calls Tryz.prog 160 #[.slice (some ⟨s, 0, none⟩) 4 4, .string ⟨#[32]⟩] w fun e w' => e = .returned (.string ⟨#[48, 32, 49, 32, 91, 93, 32, 91, 93]⟩) ∧ Below w.heap.size w w' := by
  have hl : s < w.heap.size := (Array.getElem?_eq_some_iff.1 h).1
  have s0 : (w).cell? ⟨s, 0, none⟩ = some (.string ⟨#[48]⟩) := cell_of_row _ _ 0 _ _ _ h
  have s1 : (w).cell? ⟨s, 1, none⟩ = some (.string ⟨#[49]⟩) := cell_of_row _ _ 1 _ _ _ h
  have s2 : (w).cell? ⟨s, 2, none⟩ = some (.string ⟨#[91, 93]⟩) := cell_of_row _ _ 2 _ _ _ h
  have s3 : (w).cell? ⟨s, 3, none⟩ = some (.string ⟨#[91, 93]⟩) := cell_of_row _ _ 3 _ _ _ h
  go_enter Tryz.func160, Tryz.ntmps160
  go_wp2_with fail
  refine Rounds.loop 5 ?_
  unfold Rounds
  go_wp2_with fail
  unfold Rounds
  go_wp2_with fail
  unfold Rounds
  go_wp2_with fail
  unfold Rounds
  go_wp2_with fail
  unfold Rounds
  go_wp2_with fail
  have hb0 := heap_alloc_new w (Obj.cells #[.pointer none, .slice none 0 0] 156)
  have hS : Row4 (w.alloc (Obj.cells #[.pointer none, .slice none 0 0] 156)) s := Row4.keep h hl ((Below.refl _ _).alloc (Nat.le_refl _) _)
  refine (B_Grow_fresh w.heap.size w.heap.size _ _ (Nat.le_refl _) hb0 (by simp) (by decide)).mono ?_
  rintro e w0 ⟨rfl, hB, hb⟩
  replace hS := hS.keep hl hb
  have hA : Below w.heap.size w w0 := ((Below.refl _ _).alloc (Nat.le_refl _) _).trans hb
  clear hb hb0 s0 s1 s2 s3
  have s0 : w0.cell? ⟨s, 0, none⟩ = some (.string ⟨#[48]⟩) := cell_of_row _ _ 0 _ _ _ hS
  have s1 : w0.cell? ⟨s, 1, none⟩ = some (.string ⟨#[49]⟩) := cell_of_row _ _ 1 _ _ _ hS
  have s2 : w0.cell? ⟨s, 2, none⟩ = some (.string ⟨#[91, 93]⟩) := cell_of_row _ _ 2 _ _ _ hS
  have s3 : w0.cell? ⟨s, 3, none⟩ = some (.string ⟨#[91, 93]⟩) := cell_of_row _ _ 3 _ _ _ hS
  go_wp2_with fail
  clear s0 s1 s2 s3
  refine (B_WriteString w.heap.size w.heap.size _ ⟨#[48]⟩ _ (.inr hB) (by simp <;> decide) hA.size).mono ?_
  rintro e w1 ⟨rfl, hB, hb⟩
  replace hS := hS.keep hl hb
  replace hA := hA.trans hb
  clear hb
  have s0 : w1.cell? ⟨s, 0, none⟩ = some (.string ⟨#[48]⟩) := cell_of_row _ _ 0 _ _ _ hS
  have s1 : w1.cell? ⟨s, 1, none⟩ = some (.string ⟨#[49]⟩) := cell_of_row _ _ 1 _ _ _ hS
  have s2 : w1.cell? ⟨s, 2, none⟩ = some (.string ⟨#[91, 93]⟩) := cell_of_row _ _ 2 _ _ _ hS
  have s3 : w1.cell? ⟨s, 3, none⟩ = some (.string ⟨#[91, 93]⟩) := cell_of_row _ _ 3 _ _ _ hS
  go_wp2_with fail
  refine Rounds.loop 4 ?_
  unfold Rounds
  go_wp2_with fail
  clear s0 s1 s2 s3
  refine (B_WriteString w.heap.size w.heap.size _ ⟨#[32]⟩ _ (.inr hB) (by simp <;> decide) hA.size).mono ?_
  rintro e w2 ⟨rfl, hB, hb⟩
  replace hS := hS.keep hl hb
  replace hA := hA.trans hb
  clear hb
  have s0 : w2.cell? ⟨s, 0, none⟩ = some (.string ⟨#[48]⟩) := cell_of_row _ _ 0 _ _ _ hS
  have s1 : w2.cell? ⟨s, 1, none⟩ = some (.string ⟨#[49]⟩) := cell_of_row _ _ 1 _ _ _ hS
  have s2 : w2.cell? ⟨s, 2, none⟩ = some (.string ⟨#[91, 93]⟩) := cell_of_row _ _ 2 _ _ _ hS
  have s3 : w2.cell? ⟨s, 3, none⟩ = some (.string ⟨#[91, 93]⟩) := cell_of_row _ _ 3 _ _ _ hS
  go_wp2_with fail
  clear s0 s1 s2 s3
  refine (B_WriteString w.heap.size w.heap.size _ ⟨#[49]⟩ _ (.inr hB) (by simp <;> decide) hA.size).mono ?_
  rintro e w3 ⟨rfl, hB, hb⟩
  replace hS := hS.keep hl hb
  replace hA := hA.trans hb
  clear hb
  have s0 : w3.cell? ⟨s, 0, none⟩ = some (.string ⟨#[48]⟩) := cell_of_row _ _ 0 _ _ _ hS
  have s1 : w3.cell? ⟨s, 1, none⟩ = some (.string ⟨#[49]⟩) := cell_of_row _ _ 1 _ _ _ hS
  have s2 : w3.cell? ⟨s, 2, none⟩ = some (.string ⟨#[91, 93]⟩) := cell_of_row _ _ 2 _ _ _ hS
  have s3 : w3.cell? ⟨s, 3, none⟩ = some (.string ⟨#[91, 93]⟩) := cell_of_row _ _ 3 _ _ _ hS
  go_wp2_with fail
  unfold Rounds
  go_wp2_with fail
  clear s0 s1 s2 s3
  refine (B_WriteString w.heap.size w.heap.size _ ⟨#[32]⟩ _ (.inr hB) (by simp <;> decide) hA.size).mono ?_
  rintro e w4 ⟨rfl, hB, hb⟩
  replace hS := hS.keep hl hb
  replace hA := hA.trans hb
  clear hb
  have s0 : w4.cell? ⟨s, 0, none⟩ = some (.string ⟨#[48]⟩) := cell_of_row _ _ 0 _ _ _ hS
  have s1 : w4.cell? ⟨s, 1, none⟩ = some (.string ⟨#[49]⟩) := cell_of_row _ _ 1 _ _ _ hS
  have s2 : w4.cell? ⟨s, 2, none⟩ = some (.string ⟨#[91, 93]⟩) := cell_of_row _ _ 2 _ _ _ hS
  have s3 : w4.cell? ⟨s, 3, none⟩ = some (.string ⟨#[91, 93]⟩) := cell_of_row _ _ 3 _ _ _ hS
  go_wp2_with fail
  clear s0 s1 s2 s3
  refine (B_WriteString w.heap.size w.heap.size _ ⟨#[91, 93]⟩ _ (.inr hB) (by simp <;> decide) hA.size).mono ?_
  rintro e w5 ⟨rfl, hB, hb⟩
  replace hS := hS.keep hl hb
  replace hA := hA.trans hb
  clear hb
  have s0 : w5.cell? ⟨s, 0, none⟩ = some (.string ⟨#[48]⟩) := cell_of_row _ _ 0 _ _ _ hS
  have s1 : w5.cell? ⟨s, 1, none⟩ = some (.string ⟨#[49]⟩) := cell_of_row _ _ 1 _ _ _ hS
  have s2 : w5.cell? ⟨s, 2, none⟩ = some (.string ⟨#[91, 93]⟩) := cell_of_row _ _ 2 _ _ _ hS
  have s3 : w5.cell? ⟨s, 3, none⟩ = some (.string ⟨#[91, 93]⟩) := cell_of_row _ _ 3 _ _ _ hS
  go_wp2_with fail
  unfold Rounds
  go_wp2_with fail
  clear s0 s1 s2 s3
  refine (B_WriteString w.heap.size w.heap.size _ ⟨#[32]⟩ _ (.inr hB) (by simp <;> decide) hA.size).mono ?_
  rintro e w6 ⟨rfl, hB, hb⟩
  replace hS := hS.keep hl hb
  replace hA := hA.trans hb
  clear hb
  have s0 : w6.cell? ⟨s, 0, none⟩ = some (.string ⟨#[48]⟩) := cell_of_row _ _ 0 _ _ _ hS
  have s1 : w6.cell? ⟨s, 1, none⟩ = some (.string ⟨#[49]⟩) := cell_of_row _ _ 1 _ _ _ hS
  have s2 : w6.cell? ⟨s, 2, none⟩ = some (.string ⟨#[91, 93]⟩) := cell_of_row _ _ 2 _ _ _ hS
  have s3 : w6.cell? ⟨s, 3, none⟩ = some (.string ⟨#[91, 93]⟩) := cell_of_row _ _ 3 _ _ _ hS
  go_wp2_with fail
  clear s0 s1 s2 s3
  refine (B_WriteString w.heap.size w.heap.size _ ⟨#[91, 93]⟩ _ (.inr hB) (by simp <;> decide) hA.size).mono ?_
  rintro e w7 ⟨rfl, hB, hb⟩
  replace hS := hS.keep hl hb
  replace hA := hA.trans hb
  clear hb
  go_wp2_with fail
  unfold Rounds
  go_wp2_with fail
  refine (B_String w.heap.size w.heap.size [48, 32, 49, 32, 91, 93, 32, 91, 93] _ (.inr (by first | exact hB | simpa [Lib.byteCells, Lib.strCells] using hB)) (by decide)).mono ?_
  rintro e w8 ⟨rfl, hb⟩
  go_wp2_with fail
  go_ret
  exact ⟨rfl, hA.trans hb⟩
set_option maxRecDepth 100000 in
theorem answer_check (w : World) : Calls Tryz.prog 190 #[.agg #[.int .i64 0, .int .i64 1, .slice none 0 0, .slice none 0 0]] w fun e w' => e = .returned (.int .i64 0) ∧ Below w.heap.size w w' := by
  go_enter Tryz.func190, Tryz.ntmps190
  go_wp2_with fail
  refine Rounds.loop 1 ?_
  unfold Rounds
  go_wp2_with fail
  go_ret
  exact ⟨rfl, (Below.refl _ _).alloc (Nat.le_refl _) _⟩
set_option maxRecDepth 100000 in
set_option maxHeartbeats 2000000 in
theorem line_ok (w : World) : Calls Tryz.prog 155 #[.agg #[.int .i64 0, .int .i64 1, .slice none 0 0, .slice none 0 0]] w fun e w' => e = .returned (.tuple #[.string ⟨#[48, 32, 49, 32, 91, 93, 32, 91, 93]⟩, .int .i64 0]) ∧ Below w.heap.size w w' := by
  go_enter Tryz.func155, Tryz.ntmps155
  go_wp2_with fail
  have hA := Lies.new (w := w) (o := Obj.cells #[.int .i64 0, .int .i64 1, .slice none 0 0, .slice none 0 0] 229) rfl
  refine (answer_check _).mono ?_
  rintro e w1 ⟨rfl, hb⟩
  replace hA := hA.keep (Nat.le_refl _) hb
  clear hb
  have a0 : (w1).cell? ⟨w.heap.size, 0, none⟩ = some (.int .i64 0) := cell_of_row _ _ 0 _ _ _ hA.1
  have a1 : (w1).cell? ⟨w.heap.size, 1, none⟩ = some (.int .i64 1) := cell_of_row _ _ 1 _ _ _ hA.1
  have a2 : (w1).cell? ⟨w.heap.size, 2, none⟩ = some (.slice none 0 0) := cell_of_row _ _ 2 _ _ _ hA.1
  have a3 : (w1).cell? ⟨w.heap.size, 3, none⟩ = some (.slice none 0 0) := cell_of_row _ _ 3 _ _ _ hA.1
  go_wp2_with fail
  refine Rounds.loop 1 ?_
  unfold Rounds
  go_wp2_with fail
  refine Rounds.loop 1 ?_
  unfold Rounds
  go_wp2_with fail
  go_region_with (first
    | (go_at_call_of 148 (Value.int IntKind.i64 0); refine (itoa91_0 _).mono ?_; rintro e w2 ⟨rfl, rfl⟩)
    | (go_at_call_of 148 (Value.int IntKind.i64 1); refine (itoa91_1 _).mono ?_; rintro e w2 ⟨rfl, rfl⟩)
    | (go_at_call 192; refine (list_nil _).mono ?_; rintro e w2 ⟨rfl, rfl⟩)
    | (go_at_call 160; refine (join_four (World.drew (World.alloc w1 _)) w1.heap.size (heap_alloc_new w1 _)).mono ?_; rintro e w2 ⟨rfl, hb⟩))
  all_goals
    go_wp2_with fail
    go_ret2
    exact ⟨rfl, (below_drew (hA.2.alloc (Nat.le_of_lt hA.lt) _)).trans (hb.mono (by have := hA.lt; simp [World.drew]; omega))⟩
end Go.Proofs.YtgkamgijnhbcbaaGreatDoor
namespace Go.Proofs.YtgkamgijnhbcbaaGreatDoor
open Go.RowKit Go.Proofs
open Go.Vt
/-- Some slice. -/
def SliceP (e : Ending) : Prop := ∃ a n c, e = .returned (.slice a n c)
/-- Room for calls, at g. -/
def Room (w : World) (g : Nat) : Prop := ∃ Z : Array Value, w.heap[g]? = some (.cells (#[.int .u8 0, .int .i64 0, .int .i64 0, .string ⟨#[]⟩, .string ⟨#[]⟩] ++ Z) 188 (0, 0))
theorem Room.lt {w : World} {g : Nat} (h : Room w g) : g < w.heap.size := by obtain ⟨_, h⟩ := h; exact (Array.getElem?_eq_some_iff.1 h).1
set_option maxRecDepth 100000 in
set_option maxHeartbeats 2000000 in
theorem grow_nil (w : World) : Calls Tryz.prog 196 #[.slice none 0 0, .int .i64 1] w fun e w' => (∃ c g, e = .returned (.slice (some ⟨g, 0, none⟩) 0 c) ∧ 1 ≤ c ∧ Room w' g ∧ w.heap.size ≤ g) ∧ Below w.heap.size w w' := by
  go_enter Tryz.func196, Tryz.ntmps196
  go_wp2_with fail
  have hcc : 1 ≤ (Question.appendCap 1 0 188).cut (w.tape w.drawn (Question.appendCap 1 0 188)) := grownCap_ge w 1 0 188
  generalize (Question.appendCap 1 0 188).cut _ = cc at hcc ⊢
  have hz : Builtin.zeroCells #[.int .u8 0, .int .i64 0, .int .i64 0, .string ⟨#[]⟩, .string ⟨#[]⟩] 1 = #[.int .u8 0, .int .i64 0, .int .i64 0, .string ⟨#[]⟩, .string ⟨#[]⟩] := by kernel_rfl
  go_ret
  exact ⟨⟨cc, w.heap.size, rfl, hcc, ⟨Builtin.zeroCells #[.int .u8 0, .int .i64 0, .int .i64 0, .string ⟨#[]⟩, .string ⟨#[]⟩] (cc - 1), by rw [hz]; exact heap_alloc_new w _⟩, Nat.le_refl _⟩, below_drew ((Below.refl _ _).alloc (Nat.le_refl _) _)⟩
set_option maxRecDepth 100000 in
set_option maxHeartbeats 2000000 in
theorem concat_ok (w : World) (s c : Nat) (h : w.heap[s]? = some (.cells #[.slice none 0 0, .slice (some ⟨c, 0, none⟩) 1 1] 141 (0, 0))) (hc : w.heap[c]? = some (.cells #[.int .u8 1, .int .i64 0, .int .i64 0, .string ⟨#[112]⟩, .string ⟨#[]⟩] 188 (0, 0))) : Calls Tryz.prog 157 #[.slice (some ⟨s, 0, none⟩) 2 2] w fun e w' => SliceP e ∧ Below w.heap.size w w' := by
  have hl : s < w.heap.size := (Array.getElem?_eq_some_iff.1 h).1
  have hl2 : c < w.heap.size := (Array.getElem?_eq_some_iff.1 hc).1
  have s0 : (w).cell? ⟨s, 0, none⟩ = some (.slice none 0 0) := cell_of_row _ _ 0 _ _ _ h
  have s1 : (w).cell? ⟨s, 1, none⟩ = some (.slice (some ⟨c, 0, none⟩) 1 1) := cell_of_row _ _ 1 _ _ _ h
  go_enter Tryz.func157, Tryz.ntmps157
  go_wp2_with fail
  refine Rounds.loop 3 ?_
  unfold Rounds
  go_wp2_with fail
  unfold Rounds
  go_wp2_with fail
  unfold Rounds
  go_wp2_with fail
  clear s0 s1
  refine (grow_nil _).mono ?_
  rintro e w1 ⟨⟨cc, g, rfl, hcc, hR, hg⟩, hb⟩
  have t0 : w1.cell? ⟨s, 0, none⟩ = some (.slice none 0 0) := (hb.cell (p := ⟨s, 0, none⟩) hl).trans (cell_of_row _ _ 0 _ _ _ h)
  have t1 : w1.cell? ⟨s, 1, none⟩ = some (.slice (some ⟨c, 0, none⟩) 1 1) := (hb.cell (p := ⟨s, 1, none⟩) hl).trans (cell_of_row _ _ 1 _ _ _ h)
  have hc1 : w1.heap[c]? = some (.cells #[.int .u8 1, .int .i64 0, .int .i64 0, .string ⟨#[112]⟩, .string ⟨#[]⟩] 188 (0, 0)) := (hb.block c hl2).trans hc
  have c0 : (w1).cell? ⟨c, 0, none⟩ = some (.int .u8 1) := cell_of_row _ _ 0 _ _ _ hc1
  have c1 : (w1).cell? ⟨c, 1, none⟩ = some (.int .i64 0) := cell_of_row _ _ 1 _ _ _ hc1
  have c2 : (w1).cell? ⟨c, 2, none⟩ = some (.int .i64 0) := cell_of_row _ _ 2 _ _ _ hc1
  have c3 : (w1).cell? ⟨c, 3, none⟩ = some (.string ⟨#[112]⟩) := cell_of_row _ _ 3 _ _ _ hc1
  have c4 : (w1).cell? ⟨c, 4, none⟩ = some (.string ⟨#[]⟩) := cell_of_row _ _ 4 _ _ _ hc1
  have hgl := hR.lt
  obtain ⟨Z, hZ⟩ := hR
  have z0 : w1.cell? ⟨g, 0, none⟩ = some (.int .u8 0) := (cell_of_row _ _ 0 _ _ _ hZ).trans ((Array.getElem?_append_left (by decide)).trans rfl)
  have z1 : w1.cell? ⟨g, 1, none⟩ = some (.int .i64 0) := (cell_of_row _ _ 1 _ _ _ hZ).trans ((Array.getElem?_append_left (by decide)).trans rfl)
  have z2 : w1.cell? ⟨g, 2, none⟩ = some (.int .i64 0) := (cell_of_row _ _ 2 _ _ _ hZ).trans ((Array.getElem?_append_left (by decide)).trans rfl)
  have z3 : w1.cell? ⟨g, 3, none⟩ = some (.string ⟨#[]⟩) := (cell_of_row _ _ 3 _ _ _ hZ).trans ((Array.getElem?_append_left (by decide)).trans rfl)
  have z4 : w1.cell? ⟨g, 4, none⟩ = some (.string ⟨#[]⟩) := (cell_of_row _ _ 4 _ _ _ hZ).trans ((Array.getElem?_append_left (by decide)).trans rfl)
  have zf : ∀ j, w1.frozen? ⟨g, j, none⟩ = false := fun j => by simp [World.frozen?, hZ]
  have nec : c ≠ g := by omega
  have nes : s ≠ g := by omega
  go_wp2_with fail
  refine Rounds.loop 3 ?_
  unfold Rounds
  go_wp2_with fail
  unfold Rounds
  go_wp2_with fail
  unfold Rounds
  go_wp2_with fail
  go_ret
  exact ⟨⟨_, _, _, rfl⟩, ((((hb.setCell (p := ⟨g, 0, none⟩) hg _).setCell (p := ⟨g, 1, none⟩) hg _).setCell (p := ⟨g, 2, none⟩) hg _).setCell (p := ⟨g, 3, none⟩) hg _).setCell (p := ⟨g, 4, none⟩) hg _⟩
end Go.Proofs.YtgkamgijnhbcbaaGreatDoor
