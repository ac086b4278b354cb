/- A slice that grows by append, row by row, each row data in new memory. -/
import Derived.Test.YtaibjehembkolaaGreatDoorClone
namespace Go.Vt
open Go.RowKit
/-- In cell d (a block of type T) stands a slice of n rows of one's own; the rows are data in new memory, of m nodes at the most. -/
def GrowAt (tab : Nat → List CT) (ts : List CT) (T E sz d m n : Nat) (w : World) : Prop :=
  ∃ (vs : Value) (xs : List Value) (rs : List (List C)) (F : Nat → Prop), w.heap[d]? = some (.cells #[vs] T (0, 0)) ∧ w.ownsRow (d + 1) E sz vs n xs ∧ RdFlat F w rs xs ∧ rs.length = n ∧ HtRows tab ts rs ∧ nodesRows rs ≤ m ∧
    ∀ k, F k → Nw (d + 1) w k ∧ vs.ownBlock ≠ some k
section
variable {tab : Nat → List CT} {ts : List CT} {T E sz d m n : Nat} {w W : World}
theorem GrowAt.start (w : World) (T : Nat) : GrowAt tab ts T E sz w.heap.size 0 0 (w.alloc (Obj.cells #[.slice none 0 0] T)) :=
  ⟨_, [], [], fun _ => False, heap_alloc_new w _, World.ownsRow_nil _ _ _ _, by simp [RdFlat], rfl, by simp [HtRows], by simp [nodesRows], fun _ h => h.elim⟩
theorem GrowAt.lt (h : GrowAt tab ts T E sz d m n w) : d < w.heap.size := by
  obtain ⟨vs, xs, rs, F, h1, _⟩ := h
  exact (Array.getElem?_eq_some_iff.1 h1).1
theorem ownsRow_below {e B n : Nat} {v : Value} {xs : List Value} (h : w.ownsRow B e sz v n xs) (hb : Below w.heap.size w W) : W.ownsRow B e sz v n xs :=
  h.kept (row := none) ⟨hb.os, hb.tape, hb.output, hb.size, fun k hk _ => hb.block k hk⟩ (by cases v.ownBlock <;> simp)
theorem nw_below {B : Nat} (hb : Below w.heap.size w W) {k : Nat} (h : Nw B w k) : Nw B W k ∧ W.heap[k]? = w.heap[k]? := by
  obtain ⟨h1, h2, c, e, h3⟩ := h
  have := hb.block k h2
  exact ⟨⟨h1, Nat.lt_of_lt_of_le h2 hb.size, c, e, this.trans h3⟩, this⟩
theorem GrowAt.below (h : GrowAt tab ts T E sz d m n w) (hb : Below w.heap.size w W) : GrowAt tab ts T E sz d m n W := by
  obtain ⟨vs, xs, rs, F, h1, h2, h3, h4, h5, h6, h7⟩ := h
  have hd := (Array.getElem?_eq_some_iff.1 h1).1
  refine ⟨vs, xs, rs, F, (hb.block d hd).trans h1, ownsRow_below h2 hb, RdFlat.mono (fun k hk => ⟨hk, (nw_below hb (h7 k hk).1).2⟩) _ _ h3, h4, h5, h6, fun k hk => ⟨(nw_below hb (h7 k hk).1).1, (h7 k hk).2⟩⟩
/-- The slice, in its form. -/
theorem GrowAt.form (h : GrowAt tab ts T E sz d m n w) : ∃ a c xs, w.heap[d]? = some (.cells #[.slice a n c] T (0, 0)) ∧ w.ownsRow (d + 1) E sz (.slice a n c) n xs := by
  obtain ⟨vs, xs, rs, F, h1, h2, _⟩ := h
  rcases h2.2 with ⟨h3, h4⟩ | ⟨g, cap, cur, h3, _⟩
  · subst h3 h4; exact ⟨none, 0, xs, h1, h2⟩
  · subst h3; exact ⟨_, cap, xs, h1, h2⟩
theorem GrowAt.forms (h : GrowAt tab ts T E sz d m n w) : ∃ (a : Option Addr) (c : Nat) (xs : List Value) (rs : List (List C)) (F : Nat → Prop), w.heap[d]? = some (.cells #[.slice a n c] T (0, 0)) ∧ w.ownsRow (d + 1) E sz (.slice a n c) n xs ∧ RdFlat F w rs xs ∧ rs.length = n ∧ HtRows tab ts rs ∧ nodesRows rs ≤ m ∧
    ∀ k, F k → Nw (d + 1) w k ∧ (Value.slice a n c).ownBlock ≠ some k := by
  obtain ⟨vs, xs, rs, F, h1, h2, h3⟩ := h
  rcases h2.2 with ⟨h4, h5⟩ | ⟨g, cap, cur, h4, _⟩
  · subst h4 h5; exact ⟨none, 0, xs, rs, F, h1, h2, h3⟩
  · subst h4; exact ⟨_, cap, xs, rs, F, h1, h2, h3⟩
theorem RdFlat.snoc {F : Nat → Prop} {r : List C} {us : List Value} {rs : List (List C)} {xs : List Value} (h : RdFlat F w rs xs) (hr : RdVals F w r us) : RdFlat F w (rs ++ [r]) (xs ++ us) :=
  RdFlat.app rs [r] xs us h ⟨us, [], by simp, hr, by simp [RdFlat]⟩
theorem nodesRows_snoc (rs : List (List C)) (r : List C) : nodesRows (rs ++ [r]) = nodesRows rs + 1 + nodesRow r := by
  rw [nodesRows_app]; simp only [nodesRows]; omega
theorem setCell_one {w : World} {d T : Nat} {v u : Value} {fr : Nat × Nat} (h : w.heap[d]? = some (.cells #[v] T fr)) : (w.setCell ⟨d, 0, none⟩ u).heap[d]? = some (.cells #[u] T fr) := by
  simp only [World.setCell, Array.getElem?_modify, if_pos, h, Option.map_some]
  rfl
/-- One row more: behind the block of the new row, the append, and the store. -/
theorem GrowAt.push {vs : Value} {xs us : List Value} {rs : List (List C)} {F F2 : Nat → Prop} {r : List C} {X : Obj} {w' : World} {g cap : Nat}
    (h1 : W.heap[d]? = some (.cells #[vs] T (0, 0))) (h3 : RdFlat F W rs xs) (h4 : rs.length = n) (h5 : HtRows tab ts rs) (h6 : nodesRows rs ≤ m) (h7 : ∀ k, F k → Nw (d + 1) W k ∧ vs.ownBlock ≠ some k) (h2 : W.ownsRow (d + 1) E sz vs n xs)
    (hr : RdVals F2 W r us) (hr2 : ∀ k, F2 k → Nw (d + 1) W k ∧ vs.ownBlock ≠ some k) (hrt : HtRow tab ts r)
    (ho : w'.ownsRow (d + 1) E sz (.slice (some ⟨g, 0, none⟩) (n + 1) cap) (n + 1) (xs ++ us)) (hg : (W.alloc X).grownBy w' vs.ownBlock) (hor : vs.ownBlock = some g ∨ g = (W.alloc X).heap.size) :
    GrowAt tab ts T E sz d (m + 1 + nodesRow r) (n + 1) (w'.setCell ⟨d, 0, none⟩ (.slice (some ⟨g, 0, none⟩) (n + 1) cap)) ∧ ∀ B, B ≤ d → Below B W (w'.setCell ⟨d, 0, none⟩ (.slice (some ⟨g, 0, none⟩) (n + 1) cap)) := by
  have hd := (Array.getElem?_eq_some_iff.1 h1).1
  have hsz : (W.alloc X).heap.size = W.heap.size + 1 := alloc_size' _ _
  have own : ∀ k, vs.ownBlock = some k → d + 1 ≤ k := by
    intro k hk
    rcases h2.2 with ⟨h, _⟩ | ⟨g, cap, cur, h, hb, _⟩
    · subst h; simp [Value.ownBlock] at hk
    · subst h; simp [Value.ownBlock] at hk; omega
  have keep : ∀ k, k < W.heap.size → vs.ownBlock ≠ some k → w'.heap[k]? = W.heap[k]? := fun k hk hn =>
    (hg.block k (by rw [hsz]; omega) (fun e => hn e.symm)).trans (Below.heap_alloc _ _ _ hk)
  have hd' : w'.heap[d]? = some (.cells #[vs] T (0, 0)) := (keep d hd (fun e => by have := own d e; omega)).trans h1
  have hgd : d < g := by
    rcases hor with h | h
    · have := own g h; omega
    · omega
  have far : ∀ k, k ≠ d → (w'.setCell ⟨d, 0, none⟩ (.slice (some ⟨g, 0, none⟩) (n + 1) cap)).heap[k]? = w'.heap[k]? := fun k hk => Below.heap_setCell _ _ _ _ hk
  have size' : (w'.setCell ⟨d, 0, none⟩ (.slice (some ⟨g, 0, none⟩) (n + 1) cap)).heap.size = w'.heap.size := by
    simp only [World.setCell, Array.size_modify]
  have good : ∀ k, (Nw (d + 1) W k ∧ vs.ownBlock ≠ some k) → (w'.setCell ⟨d, 0, none⟩ (.slice (some ⟨g, 0, none⟩) (n + 1) cap)).heap[k]? = W.heap[k]? ∧ Nw (d + 1) (w'.setCell ⟨d, 0, none⟩ (.slice (some ⟨g, 0, none⟩) (n + 1) cap)) k ∧ k ≠ g := by
    intro k ⟨⟨a1, a2, c, e, a3⟩, a4⟩
    have e1 := (far k (by omega)).trans (keep k a2 a4)
    refine ⟨e1, ⟨a1, ?_, c, e, e1.trans a3⟩, ?_⟩
    · rw [size']; have := hg.size; omega
    · rcases hor with h | h
      · intro e; subst e; exact a4 h
      · omega
  refine ⟨⟨_, xs ++ us, rs ++ [r], fun k => F k ∨ F2 k, setCell_one hd', ownsRow_setCell_below ho (Nat.lt_succ_self d) _, ?_, by simp [h4], HtRows.app _ _ h5 (by simp only [HtRows]; exact ⟨hrt, trivial⟩), by rw [nodesRows_snoc]; omega, fun k hk => ?_⟩, fun B hB => ?_⟩
  · exact RdFlat.snoc (RdFlat.mono (fun k hk => ⟨.inl hk, (good k (h7 k hk)).1⟩) _ _ h3) (RdVals.mono (fun k hk => ⟨.inr hk, (good k (hr2 k hk)).1⟩) _ _ hr)
  · have := good k (by rcases hk with hk | hk; exact h7 k hk; exact hr2 k hk)
    refine ⟨this.2.1, ?_⟩
    simp only [Value.ownBlock, ne_eq, Option.some.injEq]
    exact fun e => this.2.2 e.symm
  · refine (((Below.refl B W).alloc (by omega) X).grown hg (by omega) (fun k hk => ?_)).setCell hB _
    have := own k hk; omega
/-- At the end: the slice reads as rows in new memory. -/
theorem GrowAt.done (h : GrowAt tab ts T E sz d m n w) (hts : ts.length = sz) {B : Nat} (hB : B ≤ d) (hk : ∀ k, d < k → k < w.heap.size → W.heap[k]? = w.heap[k]?) (hs : w.heap.size ≤ W.heap.size) :
    ∃ v len cap rows, w.heap[d]? = some (.cells #[v] T (0, 0)) ∧ Rd (Nw B W) W (.sl sz len cap rows) v ∧ HtRows tab ts rows ∧ nodesRows rows ≤ m := by
  obtain ⟨vs, xs, rs, F, h1, h2, h3, h4, h5, h6, h7⟩ := h
  have hlens : ∀ r ∈ rs, r.length = sz := HtRows.lens hts rs h5
  have nw : ∀ k, Nw (d + 1) w k → Nw B W k ∧ W.heap[k]? = w.heap[k]? := fun k ⟨a1, a2, c, e, a3⟩ =>
    ⟨⟨by omega, by omega, c, e, (hk k (by omega) a2).trans a3⟩, hk k (by omega) a2⟩
  obtain ⟨cap, hc⟩ := Rd.of_own (B := d + 1) h2 (RdFlat.mono (fun k hk => ⟨(h7 k hk).1, rfl⟩) _ _ h3) h4 hlens
  exact ⟨vs, n, cap, rs, h1, Rd.mono nw _ _ hc, h5, h6⟩
theorem GrowAt.mono {m' : Nat} (h : GrowAt tab ts T E sz d m n w) (hm : m ≤ m') : GrowAt tab ts T E sz d m' n w := by
  obtain ⟨vs, xs, rs, F, h1, h2, h3, h4, h5, h6, h7⟩ := h
  exact ⟨vs, xs, rs, F, h1, h2, h3, h4, h5, Nat.le_trans h6 hm, h7⟩
/-- The slice in its form, behind what leaves all old blocks; its own block is an old one. -/
theorem GrowAt.forms2 (h : GrowAt tab ts T E sz d m n w) (hb : Below w.heap.size w W) : ∃ (a : Option Addr) (c : Nat) (xs : List Value) (rs : List (List C)) (F : Nat → Prop), W.heap[d]? = some (.cells #[.slice a n c] T (0, 0)) ∧ W.ownsRow (d + 1) E sz (.slice a n c) n xs ∧ RdFlat F W rs xs ∧ rs.length = n ∧ HtRows tab ts rs ∧ nodesRows rs ≤ m ∧
    (∀ k, F k → Nw (d + 1) W k ∧ (Value.slice a n c).ownBlock ≠ some k) ∧ ∀ k, (Value.slice a n c).ownBlock = some k → d < k ∧ k < w.heap.size := by
  obtain ⟨a, c, xs, rs, F, h1, h2, h3, h4, h5, h6, h7⟩ := h.forms
  refine ⟨a, c, xs, rs, F, (hb.block d (Array.getElem?_eq_some_iff.1 h1).1).trans h1, ownsRow_below h2 hb, RdFlat.mono (fun k hk => ⟨hk, (nw_below hb (h7 k hk).1).2⟩) _ _ h3, h4, h5, h6, fun k hk => ⟨(nw_below hb (h7 k hk).1).1, (h7 k hk).2⟩, fun k hk => ?_⟩
  rcases h2.2 with ⟨h, _⟩ | ⟨g, cap, cur, h, hb, hg, _⟩
  · rw [h] at hk; simp [Value.ownBlock] at hk
  · rw [h] at hk; simp [Value.ownBlock] at hk
    subst hk
    exact ⟨hb, (Array.getElem?_eq_some_iff.1 hg).1⟩
theorem setCell_at {w : World} {g T i : Nat} {cs : Array Value} {u : Value} {fr : Nat × Nat} (h : w.heap[g]? = some (.cells cs T fr)) : (w.setCell ⟨g, i, none⟩ u).heap[g]? = some (.cells (cs.setIfInBounds i u) T fr) := by
  simp only [World.setCell, Array.getElem?_modify, if_pos, h, Option.map_some]
  rfl
theorem setCell_size (w : World) (a : Addr) (u : Value) : (w.setCell a u).heap.size = w.heap.size := by simp only [World.setCell, Array.size_modify]
theorem take_nodes_le : ∀ (n : Nat) (rs : List (List C)), nodesRows (rs.take n) ≤ nodesRows rs
  | 0, rs => by simp [nodesRows]
  | n + 1, [] => by simp [nodesRows]
  | n + 1, r :: rs => by have := take_nodes_le n rs; simp only [List.take_succ_cons, nodesRows]; omega
theorem take_nodes_succ {rs : List (List C)} {i : Nat} {r : List C} (h : rs[i]? = some r) : nodesRows (rs.take (i + 1)) = nodesRows (rs.take i) + 1 + nodesRow r := by
  rw [List.take_add_one, h, Option.toList_some, nodesRows_snoc]
/-- Behind two stores into a block that is not theirs, new data are as they were. -/
theorem rd_stored {w : World} {B t i j : Nat} {u v x : Value} {c : C} (h : Rd (Nw B w) w c x) (ht : t < B) : Rd (Nw B ((w.setCell ⟨t, i, none⟩ u).setCell ⟨t, j, none⟩ v)) ((w.setCell ⟨t, i, none⟩ u).setCell ⟨t, j, none⟩ v) c x := by
  refine Rd.mono (fun k hk => ?_) _ _ h
  obtain ⟨a1, a2, cc, e, a3⟩ := hk
  have hk : ((w.setCell ⟨t, i, none⟩ u).setCell ⟨t, j, none⟩ v).heap[k]? = w.heap[k]? := (Below.heap_setCell _ _ _ _ (by show k ≠ t; omega)).trans (Below.heap_setCell _ _ _ _ (by show k ≠ t; omega))
  exact ⟨⟨a1, by rw [setCell_size, setCell_size]; exact a2, cc, e, hk.trans a3⟩, hk⟩
end
end Go.Vt
