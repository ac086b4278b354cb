/- slices.Clone of attributes and of numbers: rows in new memory. -/
import Derived.Test.YtgkamgijnhbcbaaGreatDoorClone
import Derived.Test.YtgkamgijnhbcbaaGreatDoorNew
import Derived.Test.YtgkamgijnhbcbaaGreatDoorCopied
import Derived.WalkKit
import Derived.WalkSpells
import Derived.WalkLawsBesides
import Derived.OwnWalk
import Derived.Lib.SliceRun
namespace Go.Proofs.YtgkamgijnhbcbaaGreatDoor
open Go.RowKit Go.Proofs
open Go.Vt
/-- Copied: the first len rows, in new memory. -/
def ClonedP (sz len : Nat) (rows : List (List C)) (B : Nat) (e : Ending) (w' : World) : Prop := ∃ v cap, e = .returned v ∧ Rd (Nw B w') w' (.sl sz len cap (rows.take len)) v
set_option maxRecDepth 100000 in
theorem clone_attrs (F : Nat → Prop) (w : World) (v : Value) (len cap : Nat) (rows : List (List C)) (hr : Rd F w (.sl 2 len cap rows) v) (ht : HtRows tab [.str, .str] rows) (_hF : ∀ k, F k → k < w.heap.size) (hlen : len ≤ 1099511627776) :
    Calls Tryz.prog 395 #[v] w fun e w' => ClonedP 2 len rows w.heap.size e w' ∧ Below w.heap.size w w' := by
  have hq : ∀ (W : World) (a : Option Addr) (n c n1 c1 : Nat), (binOp .eql 130 (.slice a n c) (.slice none n1 c1)).run Tryz.prog W = .ok (.bool a.isNone) W := fun W a n c n1 c1 => Lib.run_eql_slice_nil W _ _ a n c n1 c1 Tryz.underlying130
  obtain ⟨i0, hi0, hz0, hz1, hz2⟩ := info_parts zinfo201
  obtain ⟨a, rfl, h2, h3⟩ : ∃ a, v = .slice a len cap ∧ len ≤ rows.length ∧ rows.length ≤ cap := by simp only [Rd] at hr; obtain ⟨a, h1, h2, h3, _⟩ := hr; exact ⟨a, h1, h2, h3⟩
  cases a with
  | none =>
    have hq1 := fun W => hq W none len cap 0 0
    have hl0 : len = 0 := by
      simp only [Rd] at hr
      obtain ⟨a, h1, _, _, h4⟩ := hr
      rcases h4 with h4 | ⟨_, _, h4, _⟩
      · rw [h4] at h2; simpa using h2
      · rw [h4] at h1; cases h1
    clear hq
    go_enter Tryz.func395, Tryz.ntmps395
    subst hl0
    go_wp2_with fail
    go_ret
    exact ⟨⟨_, 0, rfl, by simp only [List.take_zero, Rd]; exact ⟨none, rfl, by simp, by simp, .inl (by first | trivial | rfl)⟩⟩, Below.refl _ _⟩
  | some ad =>
    have hq1 := fun W => hq W (some ad) len cap 0 0
    clear hq
    have own0 : (w.alloc (Obj.cells #[] 201)).ownsRow w.heap.size 201 2 (.slice (some ⟨w.heap.size, 0, none⟩) 0 0) 0 [] := ⟨by simp, .inr ⟨w.heap.size, 0, #[], rfl, Nat.le_refl _, heap_alloc_new w _, Nat.le_refl _, by decide, by simp, by simp⟩⟩
    obtain ⟨news, nf, nl, nc, n1⟩ := Rd.news hr (Obj.cells #[] 201)
    go_enter Tryz.func395, Tryz.ntmps395
    go_wp2_with (at_builtin; go_must (refine wpList_append_own_at _ rfl _ _ 130 rfl w.heap.size 201 i0 _ 2 32 Tryz.underlying130 hi0 hz0 hz1 hz2 rfl (by decide) (.slice (some ⟨w.heap.size, 0, none⟩) 0 0) 0 [] rfl own0 ad len cap news rfl nl nc n1 (by simp [maxLen]; omega) (by omega) (by simp) ?_; intro v' w' ho hgr _ _))
    go_ret
    rw [Nat.zero_add, List.nil_append] at ho
    have hlens : ∀ r ∈ rows, r.length = 2 := HtRows.lens (n := 2) rfl rows ht
    obtain ⟨cap', hc⟩ := Rd.of_own ho (RdFlat.sc _ _ (HtRows.sc (by decide) _ (HtRows.take len rows ht)) nf) (by simp; omega) (fun r hr => hlens r (List.mem_of_mem_take hr))
    exact ⟨⟨v', cap', rfl, hc⟩, ((Below.refl _ _).alloc (Nat.le_refl _) _).grown hgr (by simp) (fun k e => by cases e; exact Nat.le_refl _)⟩
set_option maxRecDepth 100000 in
theorem clone_ints (F : Nat → Prop) (w : World) (v : Value) (len cap : Nat) (rows : List (List C)) (hr : Rd F w (.sl 1 len cap rows) v) (ht : HtRows tab [.int .i64] rows) (_hF : ∀ k, F k → k < w.heap.size) (hlen : len ≤ 1099511627776) :
    Calls Tryz.prog 83 #[v] w fun e w' => ClonedP 1 len rows w.heap.size e w' ∧ Below w.heap.size w w' := by
  have hq : ∀ (W : World) (a : Option Addr) (n c n1 c1 : Nat), (binOp .eql 34 (.slice a n c) (.slice none n1 c1)).run Tryz.prog W = .ok (.bool a.isNone) W := fun W a n c n1 c1 => Lib.run_eql_slice_nil W _ _ a n c n1 c1 Tryz.underlying34
  obtain ⟨i0, hi0, hz0, hz1, hz2⟩ := info_parts zinfo3
  obtain ⟨a, rfl, h2, h3⟩ : ∃ a, v = .slice a len cap ∧ len ≤ rows.length ∧ rows.length ≤ cap := by simp only [Rd] at hr; obtain ⟨a, h1, h2, h3, _⟩ := hr; exact ⟨a, h1, h2, h3⟩
  cases a with
  | none =>
    have hq1 := fun W => hq W none len cap 0 0
    have hl0 : len = 0 := by
      simp only [Rd] at hr
      obtain ⟨a, h1, _, _, h4⟩ := hr
      rcases h4 with h4 | ⟨_, _, h4, _⟩
      · rw [h4] at h2; simpa using h2
      · rw [h4] at h1; cases h1
    clear hq
    go_enter Tryz.func83, Tryz.ntmps83
    subst hl0
    go_wp2_with fail
    go_ret
    exact ⟨⟨_, 0, rfl, by simp only [List.take_zero, Rd]; exact ⟨none, rfl, by simp, by simp, .inl (by first | trivial | rfl)⟩⟩, Below.refl _ _⟩
  | some ad =>
    have hq1 := fun W => hq W (some ad) len cap 0 0
    clear hq
    have own0 : (w.alloc (Obj.cells #[] 3)).ownsRow w.heap.size 3 1 (.slice (some ⟨w.heap.size, 0, none⟩) 0 0) 0 [] := ⟨by simp, .inr ⟨w.heap.size, 0, #[], rfl, Nat.le_refl _, heap_alloc_new w _, Nat.le_refl _, by decide, by simp, by simp⟩⟩
    obtain ⟨news, nf, nl, nc, n1⟩ := Rd.news hr (Obj.cells #[] 3)
    go_enter Tryz.func83, Tryz.ntmps83
    go_wp2_with (at_builtin; go_must (refine wpList_append_own_at _ rfl _ _ 34 rfl w.heap.size 3 i0 _ 1 8 Tryz.underlying34 hi0 hz0 hz1 hz2 rfl (by decide) (.slice (some ⟨w.heap.size, 0, none⟩) 0 0) 0 [] rfl own0 ad len cap news rfl nl nc n1 (by simp [maxLen]; omega) (by omega) (by simp) ?_; intro v' w' ho hgr _ _))
    go_ret
    rw [Nat.zero_add, List.nil_append] at ho
    have hlens : ∀ r ∈ rows, r.length = 1 := HtRows.lens (n := 1) rfl rows ht
    obtain ⟨cap', hc⟩ := Rd.of_own ho (RdFlat.sc _ _ (HtRows.sc (by decide) _ (HtRows.take len rows ht)) nf) (by simp; omega) (fun r hr => hlens r (List.mem_of_mem_take hr))
    exact ⟨⟨v', cap', rfl, hc⟩, ((Below.refl _ _).alloc (Nat.le_refl _) _).grown hgr (by simp) (fun k e => by cases e; exact Nat.le_refl _)⟩
end Go.Proofs.YtgkamgijnhbcbaaGreatDoor
