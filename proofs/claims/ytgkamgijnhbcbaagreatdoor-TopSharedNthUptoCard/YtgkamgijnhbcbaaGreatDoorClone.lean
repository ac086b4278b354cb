/- Rows, numbers and nodes of one's own, and a slice of them that grows by append. -/
import Derived.Test.YtgkamgijnhbcbaaGreatDoorOwn
import Derived.Test.YtgkamgijnhbcbaaGreatDoorGen
import Derived.Deep.AppendLies
import Derived.Maps.AppendAt
import Derived.Laws.IdiomCopy
namespace Go.Vt
open Go.RowKit
/-- No slice. -/
def Sc : C → Prop
  | .sl .. => False
  | _ => True
theorem Rd.sc {F F' : Nat → Prop} {w w' : World} {c : C} {v : Value} (h : Rd F w c v) (hs : Sc c) : Rd F' w' c v := by
  cases c <;> simp only [Sc] at hs <;> simpa only [Rd] using h
theorem RdVals.sc {F F' : Nat → Prop} {w w' : World} : ∀ (cs : List C) (vs : List Value), (∀ c ∈ cs, Sc c) → RdVals F w cs vs → RdVals F' w' cs vs
  | [], [], _, _ => trivial
  | c :: cs, v :: vs, hs, h => ⟨h.1.sc (hs c (by simp)), RdVals.sc cs vs (fun x hx => hs x (by simp [hx])) h.2⟩
  | [], _ :: _, _, h => h.elim
  | _ :: _, [], _, h => h.elim
theorem RdFlat.sc {F F' : Nat → Prop} {w w' : World} : ∀ (rs : List (List C)) (vs : List Value), (∀ r ∈ rs, ∀ c ∈ r, Sc c) → RdFlat F w rs vs → RdFlat F' w' rs vs
  | [], _, _, h => h
  | r :: rs, _, hs, ⟨v1, v2, e, h1, h2⟩ => ⟨v1, v2, e, RdVals.sc r v1 (hs r (by simp)) h1, RdFlat.sc rs v2 (fun x hx => hs x (by simp [hx])) h2⟩
def CT.sc : CT → Bool
  | .sl _ => false
  | _ => true
theorem Ht.sc {tab : Nat → List CT} {t : CT} {c : C} (h : Ht tab t c) (ht : t.sc = true) : Sc c := by
  cases c <;> simp only [Sc, Ht] at h ⊢
  obtain ⟨e, rfl, _⟩ := h
  simp [CT.sc] at ht
theorem HtRow.sc {tab : Nat → List CT} : ∀ (ts : List CT) (cs : List C), (∀ t ∈ ts, t.sc = true) → HtRow tab ts cs → ∀ c ∈ cs, Sc c
  | [], [], _, _ => by simp
  | t :: ts, c :: cs, hs, h => by
    simp only [HtRow] at h
    intro x hx
    rcases List.mem_cons.1 hx with rfl | hx
    · exact h.1.sc (hs t (by simp))
    · exact HtRow.sc ts cs (fun y hy => hs y (by simp [hy])) h.2 x hx
  | [], _ :: _, _, h => by simp [HtRow] at h
  | _ :: _, [], _, h => by simp [HtRow] at h
theorem HtRows.sc {tab : Nat → List CT} {ts : List CT} (hs : ∀ t ∈ ts, t.sc = true) : ∀ (rs : List (List C)), HtRows tab ts rs → ∀ r ∈ rs, ∀ c ∈ r, Sc c
  | [], _ => by simp
  | r :: rs, h => by
    simp only [HtRows] at h
    intro x hx
    rcases List.mem_cons.1 hx with rfl | hx
    · exact HtRow.sc ts _ hs h.1
    · exact HtRows.sc hs rs h.2 x hx
/-- A row of one's own reads as data in new memory. -/
theorem Rd.of_own {w : World} {B e sz len : Nat} {v : Value} {xs : List Value} {rows : List (List C)} (h : w.ownsRow B e sz v len xs) (hf : RdFlat (Nw B w) w rows xs) (hl : rows.length = len) (hlen : ∀ r ∈ rows, r.length = sz) :
    ∃ cap, Rd (Nw B w) w (.sl sz len cap rows) v := by
  rcases h.2 with ⟨rfl, rfl⟩ | ⟨g, cap, cur, rfl, hg, hb, hc, _, hs, _⟩
  · have : rows = [] := List.length_eq_zero_iff.1 hl
    subst this
    exact ⟨0, by simp only [Rd]; exact ⟨none, rfl, by simp, by simp, .inl (by first | trivial | rfl)⟩⟩
  · refine ⟨cap, ?_⟩
    simp only [Rd]
    have hlt : g < w.heap.size := (Array.getElem?_eq_some_iff.1 hb).1
    refine ⟨some ⟨g, 0, none⟩, rfl, by omega, by omega, .inr ⟨g, 0, rfl, ⟨hg, hlt, _, _, hb⟩, ?_⟩⟩
    refine RdFlat.rows rows xs 0 hf hlen (fun j u hu => ?_)
    have := h.cells (g := g) rfl j u hu
    have hadd : (⟨g, 0, none⟩ : Addr).add j = ⟨g, 0 + j, none⟩ := by unfold Addr.add; split <;> simp_all
    rwa [hadd] at this
/-- What a slice that reads hands to an append, behind one new block, cell by cell. -/
theorem Rd.news {F : Nat → Prop} {w : World} {sz len cap : Nat} {rows : List (List C)} {ad : Addr} (h : Rd F w (.sl sz len cap rows) (.slice (some ad) len cap)) (X : Obj) :
    ∃ news, RdFlat F w (rows.take len) news ∧ news.length = len * sz ∧ (∀ j u, news[j]? = some u → (w.alloc X).cell? (ad.add j) = some u) ∧ ∀ u ∈ news, u.oneCell' = true := by
  simp only [Rd] at h
  obtain ⟨a, h1, h2, h3, h4⟩ := h
  injection h1 with h1
  subst h1
  rcases h4 with rfl | ⟨b, o, h5, hF, h4⟩
  · obtain rfl : len = 0 := by simpa using h2
    exact ⟨[], by simp [RdFlat], by simp, by simp, by simp⟩
  · injection h5 with h5
    subst h5
    obtain ⟨news, k1, k2, k3⟩ := (RdRows.take len h4).flat
    have hl : news.length = len * sz := by rw [k2, List.length_take, Nat.min_eq_left h2]
    refine ⟨news, k1, hl, fun j u hu => ?_, RdFlat.oneCell _ _ k1⟩
    have hc := k3 j u hu
    have hadd : (⟨b, o, none⟩ : Addr).add j = ⟨b, o + j, none⟩ := by unfold Addr.add; split <;> simp_all
    rw [hadd, World.cell?_alloc_past _ _ _ (World.block_lt_of_cell? w _ hc)]
    exact hc
end Go.Vt
namespace Go.Vt
open Go.RowKit
/-- In cell d (a block of type T) stands a slice of n rows of one's own; the rows are data in new memory, of m nodes at the most. -/
def GrowAt (tab : Nat → List CT) (ts : List CT) (T E sz d m n : Nat) (w : World) : Prop :=
  ∃ (vs : Value) (xs : List Value) (rs : List (List C)) (F : Nat → Prop), w.heap[d]? = some (.cells #[vs] T (0, 0)) ∧ w.ownsRow (d + 1) E sz vs n xs ∧ RdFlat F w rs xs ∧ rs.length = n ∧ HtRows tab ts rs ∧ nodesRows rs ≤ m ∧
    ∀ k, F k → Nw (d + 1) w k ∧ vs.ownBlock ≠ some k
section
variable {tab : Nat → List CT} {ts : List CT} {T E sz d m n : Nat} {w W : World}
theorem GrowAt.start (w : World) (T : Nat) : GrowAt tab ts T E sz w.heap.size 0 0 (w.alloc (Obj.cells #[.slice none 0 0] T)) :=
  ⟨_, [], [], fun _ => False, heap_alloc_new w _, World.ownsRow_nil _ _ _ _, by simp [RdFlat], rfl, by simp [HtRows], by simp [nodesRows], fun _ h => h.elim⟩
theorem GrowAt.lt (h : GrowAt tab ts T E sz d m n w) : d < w.heap.size := by
  obtain ⟨vs, xs, rs, F, h1, _⟩ := h
  exact (Array.getElem?_eq_some_iff.1 h1).1
theorem ownsRow_below {e B n : Nat} {v : Value} {xs : List Value} (h : w.ownsRow B e sz v n xs) (hb : Below w.heap.size w W) : W.ownsRow B e sz v n xs :=
  h.kept (row := none) ⟨hb.os, hb.tape, hb.output, hb.size, fun k hk _ => hb.block k hk⟩ (by cases v.ownBlock <;> simp)
theorem nw_below {B : Nat} (hb : Below w.heap.size w W) {k : Nat} (h : Nw B w k) : Nw B W k ∧ W.heap[k]? = w.heap[k]? := by
  obtain ⟨h1, h2, c, e, h3⟩ := h
  have := hb.block k h2
  exact ⟨⟨h1, Nat.lt_of_lt_of_le h2 hb.size, c, e, this.trans h3⟩, this⟩
theorem GrowAt.below (h : GrowAt tab ts T E sz d m n w) (hb : Below w.heap.size w W) : GrowAt tab ts T E sz d m n W := by
  obtain ⟨vs, xs, rs, F, h1, h2, h3, h4, h5, h6, h7⟩ := h
  have hd := (Array.getElem?_eq_some_iff.1 h1).1
  refine ⟨vs, xs, rs, F, (hb.block d hd).trans h1, ownsRow_below h2 hb, RdFlat.mono (fun k hk => ⟨hk, (nw_below hb (h7 k hk).1).2⟩) _ _ h3, h4, h5, h6, fun k hk => ⟨(nw_below hb (h7 k hk).1).1, (h7 k hk).2⟩⟩
/-- The slice, in its form. -/
theorem GrowAt.form (h : GrowAt tab ts T E sz d m n w) : ∃ a c xs, w.heap[d]? = some (.cells #[.slice a n c] T (0, 0)) ∧ w.ownsRow (d + 1) E sz (.slice a n c) n xs := by
  obtain ⟨vs, xs, rs, F, h1, h2, _⟩ := h
  rcases h2.2 with ⟨h3, h4⟩ | ⟨g, cap, cur, h3, _⟩
  · subst h3 h4; exact ⟨none, 0, xs, h1, h2⟩
  · subst h3; exact ⟨_, cap, xs, h1, h2⟩
theorem GrowAt.forms (h : GrowAt tab ts T E sz d m n w) : ∃ (a : Option Addr) (c : Nat) (xs : List Value) (rs : List (List C)) (F : Nat → Prop), w.heap[d]? = some (.cells #[.slice a n c] T (0, 0)) ∧ w.ownsRow (d + 1) E sz (.slice a n c) n xs ∧ RdFlat F w rs xs ∧ rs.length = n ∧ HtRows tab ts rs ∧ nodesRows rs ≤ m ∧
    ∀ k, F k → Nw (d + 1) w k ∧ (Value.slice a n c).ownBlock ≠ some k := by
  obtain ⟨vs, xs, rs, F, h1, h2, h3⟩ := h
  rcases h2.2 with ⟨h4, h5⟩ | ⟨g, cap, cur, h4, _⟩
  · subst h4 h5; exact ⟨none, 0, xs, rs, F, h1, h2, h3⟩
  · subst h4; exact ⟨_, cap, xs, rs, F, h1, h2, h3⟩
theorem RdFlat.snoc {F : Nat → Prop} {r : List C} {us : List Value} {rs : List (List C)} {xs : List Value} (h : RdFlat F w rs xs) (hr : RdVals F w r us) : RdFlat F w (rs ++ [r]) (xs ++ us) :=
  RdFlat.app rs [r] xs us h ⟨us, [], by simp, hr, by simp [RdFlat]⟩
theorem nodesRows_snoc (rs : List (List C)) (r : List C) : nodesRows (rs ++ [r]) = nodesRows rs + 1 + nodesRow r := by
  rw [nodesRows_app]; simp only [nodesRows]; omega
theorem setCell_one {w : World} {d T : Nat} {v u : Value} {fr : Nat × Nat} (h : w.heap[d]? = some (.cells #[v] T fr)) : (w.setCell ⟨d, 0, none⟩ u).heap[d]? = some (.cells #[u] T fr) := by
  simp only [World.setCell, Array.getElem?_modify, if_pos, h, Option.map_some]
  rfl
/-- One row more: behind the block of the new row, the append, and the store. -/
theorem GrowAt.push {vs : Value} {xs us : List Value} {rs : List (List C)} {F F2 : Nat → Prop} {r : List C} {X : Obj} {w' : World} {g cap : Nat}
    (h1 : W.heap[d]? = some (.cells #[vs] T (0, 0))) (h3 : RdFlat F W rs xs) (h4 : rs.length = n) (h5 : HtRows tab ts rs) (h6 : nodesRows rs ≤ m) (h7 : ∀ k, F k → Nw (d + 1) W k ∧ vs.ownBlock ≠ some k) (h2 : W.ownsRow (d + 1) E sz vs n xs)
    (hr : RdVals F2 W r us) (hr2 : ∀ k, F2 k → Nw (d + 1) W k ∧ vs.ownBlock ≠ some k) (hrt : HtRow tab ts r)
    (ho : w'.ownsRow (d + 1) E sz (.slice (some ⟨g, 0, none⟩) (n + 1) cap) (n + 1) (xs ++ us)) (hg : (W.alloc X).grownBy w' vs.ownBlock) (hor : vs.ownBlock = some g ∨ g = (W.alloc X).heap.size) :
    GrowAt tab ts T E sz d (m + 1 + nodesRow r) (n + 1) (w'.setCell ⟨d, 0, none⟩ (.slice (some ⟨g, 0, none⟩) (n + 1) cap)) ∧ ∀ B, B ≤ d → Below B W (w'.setCell ⟨d, 0, none⟩ (.slice (some ⟨g, 0, none⟩) (n + 1) cap)) := by
  have hd := (Array.getElem?_eq_some_iff.1 h1).1
  have hsz : (W.alloc X).heap.size = W.heap.size + 1 := alloc_size' _ _
  have own : ∀ k, vs.ownBlock = some k → d + 1 ≤ k := by
    intro k hk
    rcases h2.2 with ⟨h, _⟩ | ⟨g, cap, cur, h, hb, _⟩
    · subst h; simp [Value.ownBlock] at hk
    · subst h; simp [Value.ownBlock] at hk; omega
  have keep : ∀ k, k < W.heap.size → vs.ownBlock ≠ some k → w'.heap[k]? = W.heap[k]? := fun k hk hn =>
    (hg.block k (by rw [hsz]; omega) (fun e => hn e.symm)).trans (Below.heap_alloc _ _ _ hk)
  have hd' : w'.heap[d]? = some (.cells #[vs] T (0, 0)) := (keep d hd (fun e => by have := own d e; omega)).trans h1
  have hgd : d < g := by
    rcases hor with h | h
    · have := own g h; omega
    · omega
  have far : ∀ k, k ≠ d → (w'.setCell ⟨d, 0, none⟩ (.slice (some ⟨g, 0, none⟩) (n + 1) cap)).heap[k]? = w'.heap[k]? := fun k hk => Below.heap_setCell _ _ _ _ hk
  have size' : (w'.setCell ⟨d, 0, none⟩ (.slice (some ⟨g, 0, none⟩) (n + 1) cap)).heap.size = w'.heap.size := by
    simp only [World.setCell, Array.size_modify]
  have good : ∀ k, (Nw (d + 1) W k ∧ vs.ownBlock ≠ some k) → (w'.setCell ⟨d, 0, none⟩ (.slice (some ⟨g, 0, none⟩) (n + 1) cap)).heap[k]? = W.heap[k]? ∧ Nw (d + 1) (w'.setCell ⟨d, 0, none⟩ (.slice (some ⟨g, 0, none⟩) (n + 1) cap)) k ∧ k ≠ g := by
    intro k ⟨⟨a1, a2, c, e, a3⟩, a4⟩
    have e1 := (far k (by omega)).trans (keep k a2 a4)
    refine ⟨e1, ⟨a1, ?_, c, e, e1.trans a3⟩, ?_⟩
    · rw [size']; have := hg.size; omega
    · rcases hor with h | h
      · intro e; subst e; exact a4 h
      · omega
  refine ⟨⟨_, xs ++ us, rs ++ [r], fun k => F k ∨ F2 k, setCell_one hd', ownsRow_setCell_below ho (Nat.lt_succ_self d) _, ?_, by simp [h4], HtRows.app _ _ h5 (by simp only [HtRows]; exact ⟨hrt, trivial⟩), by rw [nodesRows_snoc]; omega, fun k hk => ?_⟩, fun B hB => ?_⟩
  · exact RdFlat.snoc (RdFlat.mono (fun k hk => ⟨.inl hk, (good k (h7 k hk)).1⟩) _ _ h3) (RdVals.mono (fun k hk => ⟨.inr hk, (good k (hr2 k hk)).1⟩) _ _ hr)
  · have := good k (by rcases hk with hk | hk; exact h7 k hk; exact hr2 k hk)
    refine ⟨this.2.1, ?_⟩
    simp only [Value.ownBlock, ne_eq, Option.some.injEq]
    exact fun e => this.2.2 e.symm
  · refine (((Below.refl B W).alloc (by omega) X).grown hg (by omega) (fun k hk => ?_)).setCell hB _
    have := own k hk; omega
/-- At the end: the slice reads as rows in new memory. -/
theorem GrowAt.done (h : GrowAt tab ts T E sz d m n w) (hts : ts.length = sz) {B : Nat} (hB : B ≤ d) (hk : ∀ k, d < k → k < w.heap.size → W.heap[k]? = w.heap[k]?) (hs : w.heap.size ≤ W.heap.size) :
    ∃ v len cap rows, w.heap[d]? = some (.cells #[v] T (0, 0)) ∧ Rd (Nw B W) W (.sl sz len cap rows) v ∧ HtRows tab ts rows ∧ nodesRows rows ≤ m := by
  obtain ⟨vs, xs, rs, F, h1, h2, h3, h4, h5, h6, h7⟩ := h
  have hlens : ∀ r ∈ rs, r.length = sz := HtRows.lens hts rs h5
  have nw : ∀ k, Nw (d + 1) w k → Nw B W k ∧ W.heap[k]? = w.heap[k]? := fun k ⟨a1, a2, c, e, a3⟩ =>
    ⟨⟨by omega, by omega, c, e, (hk k (by omega) a2).trans a3⟩, hk k (by omega) a2⟩
  obtain ⟨cap, hc⟩ := Rd.of_own (B := d + 1) h2 (RdFlat.mono (fun k hk => ⟨(h7 k hk).1, rfl⟩) _ _ h3) h4 hlens
  exact ⟨vs, n, cap, rs, h1, Rd.mono nw _ _ hc, h5, h6⟩
theorem GrowAt.mono {m' : Nat} (h : GrowAt tab ts T E sz d m n w) (hm : m ≤ m') : GrowAt tab ts T E sz d m' n w := by
  obtain ⟨vs, xs, rs, F, h1, h2, h3, h4, h5, h6, h7⟩ := h
  exact ⟨vs, xs, rs, F, h1, h2, h3, h4, h5, Nat.le_trans h6 hm, h7⟩
/-- The slice in its form, behind what leaves all old blocks; its own block is an old one. -/
theorem GrowAt.forms2 (h : GrowAt tab ts T E sz d m n w) (hb : Below w.heap.size w W) : ∃ (a : Option Addr) (c : Nat) (xs : List Value) (rs : List (List C)) (F : Nat → Prop), W.heap[d]? = some (.cells #[.slice a n c] T (0, 0)) ∧ W.ownsRow (d + 1) E sz (.slice a n c) n xs ∧ RdFlat F W rs xs ∧ rs.length = n ∧ HtRows tab ts rs ∧ nodesRows rs ≤ m ∧
    (∀ k, F k → Nw (d + 1) W k ∧ (Value.slice a n c).ownBlock ≠ some k) ∧ ∀ k, (Value.slice a n c).ownBlock = some k → d < k ∧ k < w.heap.size := by
  obtain ⟨a, c, xs, rs, F, h1, h2, h3, h4, h5, h6, h7⟩ := h.forms
  refine ⟨a, c, xs, rs, F, (hb.block d (Array.getElem?_eq_some_iff.1 h1).1).trans h1, ownsRow_below h2 hb, RdFlat.mono (fun k hk => ⟨hk, (nw_below hb (h7 k hk).1).2⟩) _ _ h3, h4, h5, h6, fun k hk => ⟨(nw_below hb (h7 k hk).1).1, (h7 k hk).2⟩, fun k hk => ?_⟩
  rcases h2.2 with ⟨h, _⟩ | ⟨g, cap, cur, h, hb, hg, _⟩
  · rw [h] at hk; simp [Value.ownBlock] at hk
  · rw [h] at hk; simp [Value.ownBlock] at hk
    subst hk
    exact ⟨hb, (Array.getElem?_eq_some_iff.1 hg).1⟩
theorem setCell_at {w : World} {g T i : Nat} {cs : Array Value} {u : Value} {fr : Nat × Nat} (h : w.heap[g]? = some (.cells cs T fr)) : (w.setCell ⟨g, i, none⟩ u).heap[g]? = some (.cells (cs.setIfInBounds i u) T fr) := by
  simp only [World.setCell, Array.getElem?_modify, if_pos, h, Option.map_some]
  rfl
theorem setCell_size (w : World) (a : Addr) (u : Value) : (w.setCell a u).heap.size = w.heap.size := by simp only [World.setCell, Array.size_modify]
theorem take_nodes_le : ∀ (n : Nat) (rs : List (List C)), nodesRows (rs.take n) ≤ nodesRows rs
  | 0, rs => by simp [nodesRows]
  | n + 1, [] => by simp [nodesRows]
  | n + 1, r :: rs => by have := take_nodes_le n rs; simp only [List.take_succ_cons, nodesRows]; omega
theorem take_nodes_succ {rs : List (List C)} {i : Nat} {r : List C} (h : rs[i]? = some r) : nodesRows (rs.take (i + 1)) = nodesRows (rs.take i) + 1 + nodesRow r := by
  rw [List.take_add_one, h, Option.toList_some, nodesRows_snoc]
/-- Behind two stores into a block that is not theirs, new data are as they were. -/
theorem rd_stored {w : World} {B t i j : Nat} {u v x : Value} {c : C} (h : Rd (Nw B w) w c x) (ht : t < B) : Rd (Nw B ((w.setCell ⟨t, i, none⟩ u).setCell ⟨t, j, none⟩ v)) ((w.setCell ⟨t, i, none⟩ u).setCell ⟨t, j, none⟩ v) c x := by
  refine Rd.mono (fun k hk => ?_) _ _ h
  obtain ⟨a1, a2, cc, e, a3⟩ := hk
  have hk : ((w.setCell ⟨t, i, none⟩ u).setCell ⟨t, j, none⟩ v).heap[k]? = w.heap[k]? := (Below.heap_setCell _ _ _ _ (by show k ≠ t; omega)).trans (Below.heap_setCell _ _ _ _ (by show k ≠ t; omega))
  exact ⟨⟨a1, by rw [setCell_size, setCell_size]; exact a2, cc, e, hk.trans a3⟩, hk⟩
end
end Go.Vt
namespace Go.Vt
open Go.RowKit
/-- Block g, of type E, has room for cap numbers; the first n are numbers of 64 bits. -/
def IntsAt (w : World) (E g n cap : Nat) : Prop := ∃ cur, w.heap[g]? = some (.cells cur E (0, 0)) ∧ n ≤ cap ∧ cap ≤ maxLen ∧ cur.size = cap ∧ ∀ j, j < n → ∃ z, cur[j]? = some (.int .i64 z) ∧ IntKind.i64.wrap z = z
section
variable {w W : World} {E g n cap : Nat}
theorem IntsAt.lt (h : IntsAt w E g n cap) : g < w.heap.size := by
  obtain ⟨cur, h1, _⟩ := h
  exact (Array.getElem?_eq_some_iff.1 h1).1
theorem IntsAt.cap_le (h : IntsAt w E g n cap) : n ≤ cap ∧ cap ≤ maxLen := by
  obtain ⟨cur, _, h2, h3, _⟩ := h
  exact ⟨h2, h3⟩
theorem IntsAt.cell (h : IntsAt w E g n cap) {j : Nat} (hj : j < n) : ∃ z, w.cell? ⟨g, j, none⟩ = some (.int .i64 z) ∧ IntKind.i64.wrap z = z := by
  obtain ⟨cur, h1, h2, h3, h4, h5⟩ := h
  obtain ⟨z, h6, h7⟩ := h5 j hj
  exact ⟨z, by rw [cell_of_row _ _ j _ _ _ h1]; exact h6, h7⟩
theorem IntsAt.some_cell (h : IntsAt w E g n cap) {j : Nat} (hj : j < cap) : ∃ x, w.cell? ⟨g, j, none⟩ = some x := by
  obtain ⟨cur, h1, h2, h3, h4, h5⟩ := h
  exact ⟨cur[j]'(by omega), by rw [cell_of_row _ _ j _ _ _ h1]; exact Array.getElem?_eq_getElem _⟩
theorem IntsAt.frozen (h : IntsAt w E g n cap) (j : Nat) : w.frozen? ⟨g, j, none⟩ = false := by
  obtain ⟨cur, h1, _⟩ := h
  simp [World.frozen?, h1]
theorem IntsAt.le (h : IntsAt w E g n cap) {m : Nat} (hm : m ≤ n) : IntsAt w E g m cap := by
  obtain ⟨cur, h1, h2, h3, h4, h5⟩ := h
  exact ⟨cur, h1, by omega, h3, h4, fun j hj => h5 j (by omega)⟩
theorem IntsAt.keep (h : IntsAt w E g n cap) (hb : W.heap[g]? = w.heap[g]?) : IntsAt W E g n cap := by
  obtain ⟨cur, h1, h2⟩ := h
  exact ⟨cur, hb.trans h1, h2⟩
theorem IntsAt.set (h : IntsAt w E g n cap) (j : Nat) {z : Int} (hz : IntKind.i64.wrap z = z) : IntsAt (w.setCell ⟨g, j, none⟩ (.int .i64 z)) E g n cap := by
  obtain ⟨cur, h1, h2, h3, h4, h5⟩ := h
  refine ⟨cur.setIfInBounds j (.int .i64 z), ?_, h2, h3, by simpa using h4, fun k hk => ?_⟩
  · simp only [World.setCell, Array.getElem?_modify, if_pos, h1, Option.map_some]
    rfl
  · by_cases e : j = k
    · subst e
      exact ⟨z, by rw [Array.getElem?_setIfInBounds_self_of_lt (by omega)], hz⟩
    · obtain ⟨y, h6, h7⟩ := h5 k hk
      exact ⟨y, by rw [Array.getElem?_setIfInBounds_ne e]; exact h6, h7⟩
/-- The block reads as data in new memory. -/
theorem IntsAt.rd (h : IntsAt w E g n cap) {tab : Nat → List CT} {B : Nat} (hB : B ≤ g) : ∃ rows, Rd (Nw B w) w (.sl 1 n cap rows) (.slice (some ⟨g, 0, none⟩) n cap) ∧ HtRows tab [.int .i64] rows ∧ nodesRows rows = 2 * n := by
  have hlt := h.lt
  obtain ⟨cur, h1, h2, h3, h4, h5⟩ := h
  have key : ∀ m, m ≤ n → ∀ o, o + m = n → ∃ rows : List (List C), rows.length = m ∧ RdRows (Nw B w) w g 1 o rows ∧ HtRows tab [.int .i64] rows ∧ nodesRows rows = 2 * m := by
    intro m
    induction m with
    | zero => exact fun _ o _ => ⟨[], rfl, by simp [RdRows], by simp [HtRows], by simp [nodesRows]⟩
    | succ m ih =>
      intro hm o ho
      obtain ⟨rows, r1, r2, r3, r4⟩ := ih (by omega) (o + 1) (by omega)
      obtain ⟨z, h6, h7⟩ := h5 o (by omega)
      refine ⟨[.int .i64 z] :: rows, by simp [r1], ?_, ?_, by simp only [nodesRows, nodesRow, nodes]; omega⟩
      · simp only [RdRows, RdRow, and_true]
        exact ⟨⟨rfl, _, by rw [cell_of_row _ _ o _ _ _ h1]; exact h6, by simp [Rd]⟩, r2⟩
      · simp only [HtRows, HtRow, Ht, and_true]
        exact ⟨⟨trivial, h7⟩, r3⟩
  obtain ⟨rows, r1, r2, r3, r4⟩ := key n (Nat.le_refl _) 0 (by omega)
  refine ⟨rows, ?_, r3, r4⟩
  simp only [Rd]
  exact ⟨_, rfl, by omega, by omega, .inr ⟨g, 0, rfl, ⟨hB, hlt, _, _, h1⟩, r2⟩⟩
/-- Numbers, row by row, are numbers, cell by cell. -/
theorem ints_of_flat {tab : Nat → List CT} {F : Nat → Prop} : ∀ (rs : List (List C)) (xs : List Value), RdFlat F w rs xs → HtRows tab [.int .i64] rs → ∀ j, j < rs.length → ∃ z, xs[j]? = some (.int .i64 z) ∧ IntKind.i64.wrap z = z
  | [], _, _, _, j, hj => by simp at hj
  | r :: rs, xs, ⟨v1, v2, e, h1, h2⟩, ht, j, hj => by
    simp only [HtRows] at ht
    obtain ⟨ht1, ht2⟩ := ht
    obtain ⟨c0, cs0, rfl, k0, k1⟩ := ht1.cons
    obtain rfl := k1.nil
    obtain ⟨u, us, rfl, b0, b1⟩ := h1.cons
    obtain rfl := b1.nil
    have hz : ∃ z, u = .int .i64 z ∧ IntKind.i64.wrap z = z := by
      cases c0 with
      | int k z =>
        simp only [Ht] at k0
        obtain ⟨k0, k2⟩ := k0
        injection k0 with k0
        subst k0
        simp only [Rd] at b0
        exact ⟨z, b0, k2⟩
      | _ => simp [Ht] at k0
    cases j with
    | zero => obtain ⟨z, rfl, hw⟩ := hz; exact ⟨z, by simp [e], hw⟩
    | succ j =>
      obtain ⟨z, h3, h4⟩ := ints_of_flat rs v2 h2 ht2 j (by simpa using hj)
      exact ⟨z, by simpa [e] using h3, h4⟩
/-- A row of numbers of one's own is a block of numbers. -/
theorem IntsAt.of_own {B : Nat} {v : Value} {xs : List Value} (h : w.ownsRow B E 1 v n xs) (hx : ∀ j, j < n → ∃ z, xs[j]? = some (.int .i64 z) ∧ IntKind.i64.wrap z = z) : (v = .slice none 0 0 ∧ n = 0) ∨ ∃ g c, v = .slice (some ⟨g, 0, none⟩) n c ∧ B ≤ g ∧ IntsAt w E g n c := by
  rcases h.2 with h0 | ⟨g, c, cur, rfl, hb, hg, hc, hm, hs, ht⟩
  · exact .inl h0
  · refine .inr ⟨g, c, rfl, hb, cur, hg, hc, hm, by omega, fun j hj => ?_⟩
    obtain ⟨z, h1, h2⟩ := hx j hj
    refine ⟨z, ?_, h2⟩
    rw [← ht, List.getElem?_take_of_lt (by omega), Array.getElem?_toList] at h1
    exact h1
/-- Numbers written at the end, or ahead of it. -/
theorem IntsAt.cover : ∀ (vs : List Value) (n o : Nat) (w : World), (∀ v ∈ vs, ∃ z, v = .int .i64 z ∧ IntKind.i64.wrap z = z) → IntsAt w E g n cap → o ≤ n → o + vs.length ≤ cap → IntsAt (w.setCells g o vs) E g (max n (o + vs.length)) cap
  | [], n, o, w, _, h, ho, _ => by rw [List.length_nil, Nat.add_zero, Nat.max_eq_left ho]; exact h
  | v :: vs, n, o, w, hv, h, ho, hc => by
    obtain ⟨z, rfl, hz⟩ := hv v (by simp)
    rw [List.length_cons] at hc ⊢
    have h1 : IntsAt (w.setCell ⟨g, o, none⟩ (.int .i64 z)) E g (max n (o + 1)) cap := by
      by_cases e : o < n
      · rw [Nat.max_eq_left e]; exact h.set o hz
      · obtain rfl : o = n := by omega
        rw [Nat.max_eq_right (by omega)]
        obtain ⟨cur, h1, h2, h3, h4, h5⟩ := h
        refine ⟨cur.setIfInBounds o (.int .i64 z), ?_, by omega, h3, by simpa using h4, fun k hk => ?_⟩
        · simp only [World.setCell, Array.getElem?_modify, if_pos, h1, Option.map_some]
          rfl
        · by_cases e : o = k
          · subst e
            exact ⟨z, by rw [Array.getElem?_setIfInBounds_self_of_lt (by omega)], hz⟩
          · obtain ⟨y, h6, h7⟩ := h5 k (by omega)
            exact ⟨y, by rw [Array.getElem?_setIfInBounds_ne e]; exact h6, h7⟩
    have h2 := IntsAt.cover vs (max n (o + 1)) (o + 1) _ (fun x hx => hv x (by simp [hx])) h1 (by omega) (by omega)
    rw [show max (max n (o + 1)) (o + 1 + vs.length) = max n (o + (vs.length + 1)) from by omega] at h2
    exact h2
/-- A block of numbers, and their list. -/
theorem IntsAt.list (h : IntsAt w E g n cap) : ∃ cs : List Value, cs.length = n ∧ (∀ j v, cs[j]? = some v → w.cell? ⟨g, j, none⟩ = some v) ∧ ∀ v ∈ cs, ∃ z, v = .int .i64 z ∧ IntKind.i64.wrap z = z := by
  obtain ⟨cur, h1, h2, h3, h4, h5⟩ := h
  refine ⟨cur.toList.take n, by rw [List.length_take, Array.length_toList]; omega, fun j v hv => ?_, fun v hv => ?_⟩
  · have hj : j < n := by have := (List.getElem?_eq_some_iff.1 hv).1; rw [List.length_take] at this; omega
    rw [List.getElem?_take_of_lt hj, Array.getElem?_toList] at hv
    rw [cell_of_row _ _ j _ _ _ h1]; exact hv
  · obtain ⟨j, hj⟩ := List.getElem?_of_mem hv
    have hjn : j < n := by have := (List.getElem?_eq_some_iff.1 hj).1; rw [List.length_take] at this; omega
    rw [List.getElem?_take_of_lt hjn, Array.getElem?_toList] at hj
    obtain ⟨z, h6, h7⟩ := h5 j hjn
    rw [h6] at hj
    injection hj with hj
    exact ⟨z, hj.symm, h7⟩
/-- A new block of numbers. -/
theorem IntsAt.new (w : World) (cs : Array Value) (E n : Nat) (hn : n ≤ cs.size) (hm : cs.size ≤ maxLen) (hc : ∀ j, j < n → ∃ z, cs[j]? = some (.int .i64 z) ∧ IntKind.i64.wrap z = z) : IntsAt (w.alloc (.cells cs E)) E w.heap.size n cs.size :=
  ⟨cs, heap_alloc_new w _, hn, hm, rfl, hc⟩
end
end Go.Vt
namespace Go.Vt
open Go.RowKit
/-- A list of numbers: none, or the first of a block of numbers. -/
def KidV (F : Nat → Prop) (w : World) (I : Nat) (v : Value) (l : Nat) : Prop := (v = .slice none 0 0 ∧ l = 0) ∨ ∃ g c, v = .slice (some ⟨g, 0, none⟩) l c ∧ F g ∧ IntsAt w I g l c
/-- The cells of a node, q values of data at the most. -/
def NodeV (tab : Nat → List CT) (A I : Nat) (F J : Nat → Prop) (w : World) (q : Nat) (us : List Value) : Prop :=
  ∃ (tag : ByteArray) (v1 : Value) (p : Int) (v3 : Value) (l1 c1 l3 : Nat) (ats : List (List C)), us = [.string tag, v1, .int .i64 p, v3] ∧ tag.size ≤ strMax ∧ IntKind.i64.wrap p = p ∧ Rd F w (.sl (tab A).length l1 c1 ats) v1 ∧ HtRows tab (tab A) ats ∧ KidV J w I v3 l3 ∧ 6 + nodesRows ats + 2 * l3 ≤ q
section
variable {tab : Nat → List CT} {A I q : Nat} {F F' J J' : Nat → Prop} {w W : World} {us : List Value}
theorem KidV.mono {v : Value} {l : Nat} (h : KidV J w I v l) (hJ : ∀ k, J k → J' k ∧ ∀ n c, IntsAt w I k n c → IntsAt W I k n c) : KidV J' W I v l := by
  rcases h with h | ⟨g, c, h1, h2, h3⟩
  · exact .inl h
  · exact .inr ⟨g, c, h1, (hJ g h2).1, (hJ g h2).2 _ _ h3⟩
theorem NodeV.mono (h : NodeV tab A I F J w q us) (hF : ∀ k, F k → F' k ∧ W.heap[k]? = w.heap[k]?) (hJ : ∀ k, J k → J' k ∧ ∀ n c, IntsAt w I k n c → IntsAt W I k n c) : NodeV tab A I F' J' W q us := by
  obtain ⟨tag, v1, p, v3, l1, c1, l3, ats, h1, h2, h3, h4, h5, h6, h7⟩ := h
  exact ⟨tag, v1, p, v3, l1, c1, l3, ats, h1, h2, h3, Rd.mono hF _ _ h4, h5, h6.mono hJ, h7⟩
/-- A node of one's own is a row of data in new memory. -/
theorem NodeV.row (h : NodeV tab A I F J w q us) {B : Nat} (hF : ∀ k, F k → Nw B w k) (hJ : ∀ k, J k → B ≤ k) (hI : tab I = [.int .i64]) : ∃ r, RdVals (Nw B w) w r us ∧ HtRow tab [.str, .sl A, .int .i64, .sl I] r ∧ 1 + nodesRow r ≤ q := by
  obtain ⟨tag, v1, p, v3, l1, c1, l3, ats, rfl, h2, h3, h4, h5, h6, h7⟩ := h
  have h4' : Rd (Nw B w) w (.sl (tab A).length l1 c1 ats) v1 := Rd.mono (fun k hk => ⟨hF k hk, rfl⟩) _ _ h4
  rcases h6 with ⟨rfl, rfl⟩ | ⟨g, c, rfl, hg, hi⟩
  · refine ⟨[.str tag, .sl (tab A).length l1 c1 ats, .int .i64 p, .sl 1 0 0 []], ?_, ?_, by simp only [nodesRow, nodes, nodesRows]; omega⟩
    · simp only [RdVals, and_true]
      refine ⟨by simp [Rd], h4', by simp [Rd], ?_⟩
      simp only [Rd]; exact ⟨none, rfl, by simp, by simp, .inl trivial⟩
    · simp only [HtRow, and_true]
      refine ⟨by simp only [Ht]; exact ⟨trivial, h2⟩, by simp only [Ht]; exact ⟨A, rfl, rfl, h5⟩, by simp only [Ht]; exact ⟨trivial, h3⟩, ?_⟩
      simp only [Ht]; exact ⟨I, rfl, by rw [hI]; rfl, by simp [HtRows]⟩
  · obtain ⟨rows, r1, r2, r3⟩ := hi.rd (tab := tab) (B := B) (hJ g hg)
    refine ⟨[.str tag, .sl (tab A).length l1 c1 ats, .int .i64 p, .sl 1 l3 c rows], ?_, ?_, by simp only [nodesRow, nodes]; omega⟩
    · simp only [RdVals, and_true]
      exact ⟨by simp [Rd], h4', by simp [Rd], r1⟩
    · simp only [HtRow, and_true]
      refine ⟨by simp only [Ht]; exact ⟨trivial, h2⟩, by simp only [Ht]; exact ⟨A, rfl, rfl, h5⟩, by simp only [Ht]; exact ⟨trivial, h3⟩, ?_⟩
      simp only [Ht]; exact ⟨I, rfl, by rw [hI]; rfl, by rw [hI]; exact r2⟩
end
/-- Nodes of one's own, one behind the other. -/
def NodesV (tab : Nat → List CT) (A I : Nat) (F J : Nat → Prop) (w : World) : Nat → Nat → List Value → Prop
  | 0, _, xs => xs = []
  | n + 1, m, xs => ∃ us ys q, xs = us ++ ys ∧ q ≤ m ∧ NodeV tab A I F J w q us ∧ NodesV tab A I F J w n (m - q) ys
section
variable {tab : Nat → List CT} {A I : Nat} {F F' J J' : Nat → Prop} {w W : World}
theorem NodesV.mono (hF : ∀ k, F k → F' k ∧ W.heap[k]? = w.heap[k]?) (hJ : ∀ k, J k → J' k ∧ ∀ n c, IntsAt w I k n c → IntsAt W I k n c) : ∀ (n m : Nat) (xs : List Value), NodesV tab A I F J w n m xs → NodesV tab A I F' J' W n m xs
  | 0, _, _, h => h
  | n + 1, m, _, ⟨us, ys, q, h1, h2, h3, h4⟩ => ⟨us, ys, q, h1, h2, h3.mono hF hJ, NodesV.mono hF hJ n (m - q) ys h4⟩
theorem NodesV.more : ∀ (n m m' : Nat) (xs : List Value), m ≤ m' → NodesV tab A I F J w n m xs → NodesV tab A I F J w n m' xs
  | 0, _, _, _, _, h => h
  | n + 1, m, m', _, hm, ⟨us, ys, q, h1, h2, h3, h4⟩ => ⟨us, ys, q, h1, by omega, h3, NodesV.more n (m - q) (m' - q) ys (by omega) h4⟩
theorem NodesV.snoc : ∀ (n m q : Nat) (xs us : List Value), NodesV tab A I F J w n m xs → NodeV tab A I F J w q us → NodesV tab A I F J w (n + 1) (m + q) (xs ++ us)
  | 0, m, q, xs, us, h, hu => by
    simp only [NodesV] at h; subst h
    exact ⟨us, [], q, by simp, by omega, hu, by simp [NodesV]⟩
  | n + 1, m, q, _, us, ⟨us', ys, q', h1, h2, h3, h4⟩, hu => by
    subst h1
    refine ⟨us', ys ++ us, q', by simp, by omega, h3, ?_⟩
    have := NodesV.snoc n (m - q') q ys us h4 hu
    rwa [show m - q' + q = m + q - q' from by omega] at this
/-- Nodes of one's own are rows of data in new memory. -/
theorem NodesV.flat {B : Nat} (hF : ∀ k, F k → Nw B w k) (hJ : ∀ k, J k → B ≤ k) (hI : tab I = [.int .i64]) : ∀ (n m : Nat) (xs : List Value), NodesV tab A I F J w n m xs → ∃ rs, RdFlat (Nw B w) w rs xs ∧ rs.length = n ∧ HtRows tab [.str, .sl A, .int .i64, .sl I] rs ∧ nodesRows rs ≤ m
  | 0, m, xs, h => by simp only [NodesV] at h; subst h; exact ⟨[], by simp [RdFlat], rfl, by simp [HtRows], by simp [nodesRows]⟩
  | n + 1, m, _, ⟨us, ys, q, h1, h2, h3, h4⟩ => by
    obtain ⟨r, a1, a2, a3⟩ := h3.row hF hJ hI
    obtain ⟨rs, b1, b2, b3, b4⟩ := NodesV.flat hF hJ hI n (m - q) ys h4
    exact ⟨r :: rs, ⟨us, ys, h1, a1, b1⟩, by simp [b2], by simp only [HtRows]; exact ⟨a2, b3⟩, by simp only [nodesRows]; omega⟩
theorem NodeV.length {q : Nat} {us : List Value} (h : NodeV tab A I F J w q us) : us.length = 4 := by
  obtain ⟨tag, v1, p, v3, l1, c1, l3, ats, rfl, _⟩ := h
  rfl
/-- Node i, and what stands ahead of it and behind it; another may take its place. -/
theorem NodesV.at : ∀ (n m i : Nat) (xs : List Value), i < n → NodesV tab A I F J w n m xs → ∃ pre us post q, xs = pre ++ (us ++ post) ∧ pre.length = i * 4 ∧ NodeV tab A I F J w q us ∧ q ≤ m ∧ ∀ us' q', NodeV tab A I F J w q' us' → NodesV tab A I F J w n (m - q + q') (pre ++ (us' ++ post))
  | 0, _, _, _, hi, _ => by omega
  | n + 1, m, 0, _, _, ⟨us, ys, q, h1, h2, h3, h4⟩ => by
    refine ⟨[], us, ys, q, by simp [h1], by simp, h3, h2, fun us' q' hu => ⟨us', ys, q', by simp, by omega, hu, ?_⟩⟩
    exact NodesV.more n _ _ _ (by omega) h4
  | n + 1, m, i + 1, _, hi, ⟨us, ys, q, h1, h2, h3, h4⟩ => by
    obtain ⟨pre, u2, post, q2, k1, k2, k3, k4, k5⟩ := NodesV.at n (m - q) i ys (by omega) h4
    refine ⟨us ++ pre, u2, post, q2, by simp [h1, k1], by rw [List.length_append, h3.length, k2]; omega, k3, by omega, fun us' q' hu => ?_⟩
    refine ⟨us, pre ++ (us' ++ post), q, by simp, by omega, h3, ?_⟩
    exact NodesV.more n _ _ _ (by omega) (k5 us' q' hu)
theorem NodesV.length : ∀ (n m : Nat) (xs : List Value), NodesV tab A I F J w n m xs → xs.length = n * 4
  | 0, _, _, h => by simp only [NodesV] at h; subst h; rfl
  | n + 1, m, _, ⟨us, ys, q, h1, _, h3, h4⟩ => by rw [h1, List.length_append, h3.length, NodesV.length n (m - q) ys h4]; omega
end
end Go.Vt
namespace Go.Vt
open Go.RowKit
/-- In cell d (a block of type T) stands a slice of n nodes of one's own (blocks of type E), m values of data at the most. F: what their attributes lie in; J: what their lists of numbers lie in. -/
structure GrowP (tab : Nat → List CT) (A I T E d m n : Nat) (a : Option Addr) (c : Nat) (xs : List Value) (F J : Nat → Prop) (u : Nat) (w : World) : Prop where
  hd : w.heap[d]? = some (.cells #[.slice a n c] T (0, 0))
  own : w.ownsRow (d + 1) E 4 (.slice a n c) n xs
  ns : NodesV tab A I F J w n m xs
  hF : ∀ k, F k → Nw (d + 1) w k ∧ (Value.slice a n c).ownBlock ≠ some k
  hJ : ∀ k, J k → Nw (d + 1) w k ∧ (Value.slice a n c).ownBlock ≠ some k
  hFJ : ∀ k, F k → ¬ J k
  hu : ∀ k, ((Value.slice a n c).ownBlock = some k → d < k ∧ k < u) ∧ (F k → k < u) ∧ (J k → k < u)
def GrowK (tab : Nat → List CT) (A I T E d m n : Nat) (w : World) : Prop := ∃ (a : Option Addr) (c : Nat) (xs : List Value) (F J : Nat → Prop), GrowP tab A I T E d m n a c xs F J w.heap.size w
section
variable {tab : Nat → List CT} {A I T E d m n : Nat} {w W : World}
theorem GrowK.start (w : World) (T : Nat) : GrowK tab A I T E w.heap.size 0 0 (w.alloc (Obj.cells #[.slice none 0 0] T)) :=
  ⟨none, 0, [], fun _ => False, fun _ => False, heap_alloc_new w _, World.ownsRow_nil _ _ _ _, by simp [NodesV], fun _ h => h.elim, fun _ h => h.elim, fun _ h => h.elim, fun _ => ⟨fun h => by simp [Value.ownBlock] at h, fun h => h.elim, fun h => h.elim⟩⟩
theorem GrowK.lt (h : GrowK tab A I T E d m n w) : d < w.heap.size := by
  obtain ⟨a, c, xs, F, J, h⟩ := h
  exact (Array.getElem?_eq_some_iff.1 h.hd).1
theorem GrowK.more {m' : Nat} (h : GrowK tab A I T E d m n w) (hm : m ≤ m') : GrowK tab A I T E d m' n w := by
  obtain ⟨a, c, xs, F, J, h⟩ := h
  exact ⟨a, c, xs, F, J, h.hd, h.own, NodesV.more _ _ _ _ hm h.ns, h.hF, h.hJ, h.hFJ, h.hu⟩
/-- The parts, behind what leaves all old blocks; what they lie in is old. -/
theorem GrowK.parts (h : GrowK tab A I T E d m n w) (hb : Below w.heap.size w W) : ∃ (a : Option Addr) (c : Nat) (xs : List Value) (F J : Nat → Prop), GrowP tab A I T E d m n a c xs F J w.heap.size W := by
  obtain ⟨a, c, xs, F, J, h⟩ := h
  exact ⟨a, c, xs, F, J, (hb.block d (Array.getElem?_eq_some_iff.1 h.hd).1).trans h.hd, ownsRow_below h.own hb,
    NodesV.mono (fun k hk => ⟨hk, (nw_below hb (h.hF k hk).1).2⟩) (fun k hk => ⟨hk, fun _ _ hi => hi.keep (nw_below hb (h.hJ k hk).1).2⟩) _ _ _ h.ns,
    fun k hk => ⟨(nw_below hb (h.hF k hk).1).1, (h.hF k hk).2⟩, fun k hk => ⟨(nw_below hb (h.hJ k hk).1).1, (h.hJ k hk).2⟩, h.hFJ, h.hu⟩
/-- One node more: behind the block of the new row, the append, and the store. -/
theorem GrowP.push {a : Option Addr} {c q u : Nat} {xs us : List Value} {F J F2 J2 : Nat → Prop} {X : Obj} {w' : World} {g cap : Nat} (h : GrowP tab A I T E d m n a c xs F J u W)
    (hr : NodeV tab A I F2 J2 W q us) (hF2 : ∀ k, F2 k → Nw (d + 1) W k ∧ u ≤ k) (hJ2 : ∀ k, J2 k → Nw (d + 1) W k ∧ u ≤ k) (h22 : ∀ k, F2 k → ¬ J2 k)
    (ho : w'.ownsRow (d + 1) E 4 (.slice (some ⟨g, 0, none⟩) (n + 1) cap) (n + 1) (xs ++ us)) (hg : (W.alloc X).grownBy w' (Value.slice a n c).ownBlock) (hor : (Value.slice a n c).ownBlock = some g ∨ g = (W.alloc X).heap.size) :
    GrowK tab A I T E d (m + q) (n + 1) (w'.setCell ⟨d, 0, none⟩ (.slice (some ⟨g, 0, none⟩) (n + 1) cap)) ∧ ∀ B, B ≤ d → Below B W (w'.setCell ⟨d, 0, none⟩ (.slice (some ⟨g, 0, none⟩) (n + 1) cap)) := by
  have hd := (Array.getElem?_eq_some_iff.1 h.hd).1
  have h8 : ∀ k, (Value.slice a n c).ownBlock = some k → d < k ∧ k < u := fun k hk => (h.hu k).1 hk
  have hsz : (W.alloc X).heap.size = W.heap.size + 1 := alloc_size' _ _
  have keep : ∀ k, k < W.heap.size → (Value.slice a n c).ownBlock ≠ some k → w'.heap[k]? = W.heap[k]? := fun k hk hn =>
    (hg.block k (by rw [hsz]; omega) (fun e => hn e.symm)).trans (Below.heap_alloc _ _ _ hk)
  have hd' : w'.heap[d]? = some (.cells #[.slice a n c] T (0, 0)) := (keep d hd (fun e => by have := h8 d e; omega)).trans h.hd
  have hgd : d < g := by
    rcases hor with h | h
    · exact (h8 g h).1
    · omega
  have hglt : g < w'.heap.size := by
    rcases ho.2 with ⟨h, _⟩ | ⟨g', cap', cur, h, _, hh, _⟩
    · cases h
    · injection h with h
      injection h with h
      injection h with h
      subst h
      exact (Array.getElem?_eq_some_iff.1 hh).1
  have far : ∀ k, k ≠ d → (w'.setCell ⟨d, 0, none⟩ (.slice (some ⟨g, 0, none⟩) (n + 1) cap)).heap[k]? = w'.heap[k]? := fun k hk => Below.heap_setCell _ _ _ _ hk
  have size' : (w'.setCell ⟨d, 0, none⟩ (.slice (some ⟨g, 0, none⟩) (n + 1) cap)).heap.size = w'.heap.size := setCell_size _ _ _
  have good : ∀ k, (Nw (d + 1) W k ∧ (Value.slice a n c).ownBlock ≠ some k) → (w'.setCell ⟨d, 0, none⟩ (.slice (some ⟨g, 0, none⟩) (n + 1) cap)).heap[k]? = W.heap[k]? ∧ Nw (d + 1) (w'.setCell ⟨d, 0, none⟩ (.slice (some ⟨g, 0, none⟩) (n + 1) cap)) k ∧ k ≠ g ∧ k < w'.heap.size := by
    intro k ⟨⟨a1, a2, cc, e, a3⟩, a4⟩
    have e1 := (far k (by omega)).trans (keep k a2 a4)
    have e2 : k < w'.heap.size := by have := hg.size; omega
    refine ⟨e1, ⟨a1, by rw [size']; exact e2, cc, e, e1.trans a3⟩, ?_, e2⟩
    rcases hor with h | h
    · intro e; subst e; exact a4 h
    · omega
  have own2 : ∀ k, u ≤ k → (Value.slice a n c).ownBlock ≠ some k := fun k hk e => by have := (h8 k e).2; omega
  have gF : ∀ k, F k ∨ F2 k → Nw (d + 1) W k ∧ (Value.slice a n c).ownBlock ≠ some k := fun k hk => by
    rcases hk with hk | hk
    · exact h.hF k hk
    · exact ⟨(hF2 k hk).1, own2 k (hF2 k hk).2⟩
  have gJ : ∀ k, J k ∨ J2 k → Nw (d + 1) W k ∧ (Value.slice a n c).ownBlock ≠ some k := fun k hk => by
    rcases hk with hk | hk
    · exact h.hJ k hk
    · exact ⟨(hJ2 k hk).1, own2 k (hJ2 k hk).2⟩
  have nog : ∀ k, k ≠ g → (Value.slice (some ⟨g, 0, none⟩) (n + 1) cap).ownBlock ≠ some k := fun k hk => by
    simp only [Value.ownBlock, ne_eq, Option.some.injEq]
    exact fun e => hk e.symm
  refine ⟨⟨some ⟨g, 0, none⟩, cap, xs ++ us, fun k => F k ∨ F2 k, fun k => J k ∨ J2 k, setCell_one hd', ownsRow_setCell_below ho (Nat.lt_succ_self d) _, ?_, fun k hk => ?_, fun k hk => ?_, fun k hk hj => ?_, fun k => ⟨fun hk => ?_, fun hk => ?_, fun hk => ?_⟩⟩, fun B hB => ?_⟩
  · exact NodesV.snoc n m q xs us (NodesV.mono (fun k hk => ⟨.inl hk, (good k (gF k (.inl hk))).1⟩) (fun k hk => ⟨.inl hk, fun _ _ hi => hi.keep (good k (gJ k (.inl hk))).1⟩) _ _ _ h.ns)
      (hr.mono (fun k hk => ⟨.inr hk, (good k (gF k (.inr hk))).1⟩) (fun k hk => ⟨.inr hk, fun _ _ hi => hi.keep (good k (gJ k (.inr hk))).1⟩))
  · have := good k (gF k hk)
    exact ⟨this.2.1, nog k this.2.2.1⟩
  · have := good k (gJ k hk)
    exact ⟨this.2.1, nog k this.2.2.1⟩
  · rcases hk with hk | hk <;> rcases hj with hj | hj
    · exact h.hFJ k hk hj
    · have := (h.hu k).2.1 hk; have := (hJ2 k hj).2; omega
    · have := (h.hu k).2.2 hj; have := (hF2 k hk).2; omega
    · exact h22 k hk hj
  · simp only [Value.ownBlock, Option.some.injEq] at hk
    subst hk
    exact ⟨hgd, by rw [size']; exact hglt⟩
  · rw [size']; exact (good k (gF k hk)).2.2.2
  · rw [size']; exact (good k (gJ k hk)).2.2.2
  · exact (((Below.refl B W).alloc (by omega) X).grown hg (by omega) (fun k hk => by have := h8 k hk; omega)).setCell hB _
end
end Go.Vt
