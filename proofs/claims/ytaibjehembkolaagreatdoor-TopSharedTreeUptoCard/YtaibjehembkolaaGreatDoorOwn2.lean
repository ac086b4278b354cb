/- Data in new memory: the contract of a function that makes a copy of its own. -/
import Derived.Test.YtaibjehembkolaaGreatDoorOwn
namespace Go.Vt
open Go.RowKit

/-- New memory, from block B on, that no string shares. -/
def Nw (B : Nat) (w : World) (k : Nat) : Prop := B ≤ k ∧ k < w.heap.size ∧ ∃ c e, w.heap[k]? = some (.cells c e (0, 0))
theorem Nw.keep {S : Nat → Prop} {B : Nat} {w w' : World} (h : Fr S w w') (hs : ∀ k, B ≤ k → k < w.heap.size → ¬ S k) : ∀ k, Nw B w k → Nw B w' k ∧ w'.heap[k]? = w.heap[k]? := fun k ⟨h1, h2, c, e, h3⟩ => by
  have := h.block k h2 (hs k h1 h2)
  exact ⟨⟨h1, Nat.lt_of_lt_of_le h2 h.size, c, e, this.trans h3⟩, this⟩
theorem Nw.lower {B B' : Nat} {w : World} (h : B' ≤ B) : ∀ k, Nw B w k → Nw B' w k ∧ w.heap[k]? = w.heap[k]? := fun _ ⟨h1, h2, h3⟩ => ⟨⟨Nat.le_trans h h1, h2, h3⟩, rfl⟩

/-- A copy with room of what reads as c. -/
structure Owned (tab : Nat → List CT) (t : CT) (c c' : C) (v : Value) (B : Nat) (w : World) : Prop where
  ht : Ht tab t c'
  roomy : Roomy c'
  nodes : nodes c' ≤ 200 * nodes c
  rd : Rd (Nw B w) w c' v
def OwnedRow (tab : Nat → List CT) : List CT → List C → List C → List Value → Nat → World → Prop
  | [], [], [], [], _, _ => True
  | t :: ts, c :: cs, c' :: cs', v :: vs, B, w => Owned tab t c c' v B w ∧ OwnedRow tab ts cs cs' vs B w
  | _, _, _, _, _, _ => False
theorem Owned.keep {tab : Nat → List CT} {t : CT} {c c' : C} {v : Value} {B B' : Nat} {w w' : World} {S : Nat → Prop} (h : Owned tab t c c' v B w) (hf : Fr S w w') (hs : ∀ k, B ≤ k → k < w.heap.size → ¬ S k) (hB : B' ≤ B) : Owned tab t c c' v B' w' :=
  ⟨h.ht, h.roomy, h.nodes, Rd.mono (Nw.lower hB) _ _ (Rd.mono (Nw.keep hf hs) _ _ h.rd)⟩
theorem OwnedRow.keep {tab : Nat → List CT} {B B' : Nat} {w w' : World} {S : Nat → Prop} (hf : Fr S w w') (hs : ∀ k, B ≤ k → k < w.heap.size → ¬ S k) (hB : B' ≤ B) : ∀ (ts : List CT) (cs cs' : List C) (vs : List Value), OwnedRow tab ts cs cs' vs B w → OwnedRow tab ts cs cs' vs B' w'
  | [], [], [], [], _ => trivial
  | t :: ts, c :: cs, c' :: cs', v :: vs, h => ⟨h.1.keep hf hs hB, OwnedRow.keep hf hs hB ts cs cs' vs h.2⟩
  | [], [], [], _ :: _, h => h.elim
  | [], [], _ :: _, _, h => by cases h
  | [], _ :: _, _, _, h => by cases h
  | _ :: _, [], _, _, h => by cases h
  | _ :: _, _ :: _, [], _, h => by cases h
  | _ :: _, _ :: _, _ :: _, [], h => by cases h
theorem OwnedRow.out {tab : Nat → List CT} {B : Nat} {w : World} : ∀ (ts : List CT) (cs cs' : List C) (vs : List Value), OwnedRow tab ts cs cs' vs B w → HtRow tab ts cs' ∧ RoomyRow cs' ∧ nodesRow cs' ≤ 200 * nodesRow cs ∧ RdVals (Nw B w) w cs' vs
  | [], [], [], [], _ => ⟨by simp [HtRow], by simp [RoomyRow], by simp [nodesRow], trivial⟩
  | t :: ts, c :: cs, c' :: cs', v :: vs, h => by
    obtain ⟨h1, h2, h3, h4⟩ := OwnedRow.out ts cs cs' vs h.2
    have := h.1.nodes
    exact ⟨by simp only [HtRow]; exact ⟨h.1.ht, h1⟩, by simp only [RoomyRow]; exact ⟨h.1.roomy, h2⟩, by simp only [nodesRow]; omega, h.1.rd, h4⟩
  | [], [], [], _ :: _, h => h.elim
  | [], [], _ :: _, _, h => by cases h
  | [], _ :: _, _, _, h => by cases h
  | _ :: _, [], _, _, h => by cases h
  | _ :: _, _ :: _, [], _, h => by cases h
  | _ :: _, _ :: _, _ :: _, [], h => by cases h
/-- A scalar is its own copy. -/
def scalar : CT → Bool
  | .sl _ => false
  | _ => true
theorem Owned.scalar {tab : Nat → List CT} {t : CT} {c : C} {v : Value} {F : Nat → Prop} {B : Nat} {w w' : World} (hs : scalar t = true) (ht : Ht tab t c) (hr : Rd F w c v) : Owned tab t c c v B w' := by
  cases c with
  | int k n => exact ⟨ht, by simp [Roomy], by omega, by simpa only [Rd] using hr⟩
  | bool b => exact ⟨ht, by simp [Roomy], by omega, by simpa only [Rd] using hr⟩
  | str s => exact ⟨ht, by simp [Roomy], by omega, by simpa only [Rd] using hr⟩
  | sl _ _ _ _ => simp only [Ht] at ht; obtain ⟨e, rfl, _⟩ := ht; simp [Go.Vt.scalar] at hs
theorem scalarRow_rd {tab : Nat → List CT} {F F' : Nat → Prop} {w : World} {b : Nat} : ∀ (ts : List CT) (cs : List C) (o : Nat), ts.all scalar = true → HtRow tab ts cs → RdRow F w b o cs → RdRow F' w b o cs ∧ RoomyRow cs
  | [], [], _, _, _, _ => by simp [RdRow, RoomyRow]
  | t :: ts, c :: cs, o, hs, ht, hr => by
    simp only [List.all_cons, Bool.and_eq_true] at hs
    simp only [HtRow] at ht
    simp only [RdRow] at hr ⊢
    obtain ⟨⟨v, h1, h2⟩, h3⟩ := hr
    obtain ⟨k1, k2⟩ := scalarRow_rd ts cs (o + 1) hs.2 ht.2 h3
    have := Owned.scalar (tab := tab) (B := 0) (w' := w) hs.1 ht.1 h2
    refine ⟨⟨⟨v, h1, ?_⟩, k1⟩, by simp only [RoomyRow]; exact ⟨this.roomy, k2⟩⟩
    cases c with
    | int k n => simpa only [Rd] using h2
    | bool b => simpa only [Rd] using h2
    | str s => simpa only [Rd] using h2
    | sl _ _ _ _ => have := ht.1; simp only [Ht] at this; obtain ⟨e, rfl, _⟩ := this; simp [Go.Vt.scalar] at hs
  | [], _ :: _, _, _, h, _ => by simp [HtRow] at h
  | _ :: _, [], _, _, h, _ => by simp [HtRow] at h
theorem scalarRows_rd {tab : Nat → List CT} {ts : List CT} {F F' : Nat → Prop} {w : World} {b sz : Nat} (hs : ts.all scalar = true) : ∀ (rs : List (List C)) (o : Nat), HtRows tab ts rs → RdRows F w b sz o rs → RdRows F' w b sz o rs ∧ RoomyRows rs
  | [], _, _, _ => by simp [RdRows, RoomyRows]
  | r :: rs, o, ht, hr => by
    simp only [HtRows] at ht
    simp only [RdRows] at hr ⊢
    obtain ⟨h1, h2⟩ := scalarRow_rd (F' := F') ts r o hs ht.1 hr.1.2
    obtain ⟨k1, k2⟩ := scalarRows_rd hs rs (o + sz) ht.2 hr.2
    exact ⟨⟨⟨hr.1.1, h1⟩, k1⟩, by simp only [RoomyRows]; exact ⟨h2, k2⟩⟩

def limL : Nat := 68719476736
/-- f copies a slice. -/
def OwnS (P : Program) (tab : Nat → List CT) (n : Nat) (f : FuncId) (E : Nat) : Prop :=
  ∀ (F : Nat → Prop) (w : World) (v : Value) (c : C), nodes c ≤ n → nodes c ≤ limL → Ht tab (.sl E) c → Rd F w c v → (∀ k, F k → k < w.heap.size) →
    Calls P f #[v] w fun e w' => ∃ v' c', e = .returned v' ∧ Owned tab (.sl E) c c' v' w.heap.size w' ∧ Below w.heap.size w w'
/-- f copies a struct. -/
def OwnA (P : Program) (tab : Nat → List CT) (n : Nat) (f : FuncId) (cts : List CT) : Prop :=
  ∀ (F : Nat → Prop) (w : World) (vs : List Value) (cs : List C), nodesRow cs ≤ n → nodesRow cs ≤ limL → HtRow tab cts cs → RdVals F w cs vs → (∀ k, F k → k < w.heap.size) →
    Calls P f #[.agg vs.toArray] w fun e w' => ∃ vs' cs', e = .returned (.agg vs'.toArray) ∧ OwnedRow tab cts cs cs' vs' w.heap.size w' ∧ Below w.heap.size w w'

theorem Copy.nodes {rows : List (List C)} {len : Nat} {tab : Nat → List CT} {E sz : Nat} (hsz : (tab E).length = sz) (h64 : sz ≤ 64) : Go.Vt.nodes (.sl sz len (len + 2) (rows.take len ++ [(tab E).map (zeroC tab), (tab E).map (zeroC tab)])) ≤ 200 * (1 + nodesRows (rows.take len)) := by
  have h1 : nodesRows [(tab E).map (zeroC tab), (tab E).map (zeroC tab)] = 2 * (1 + sz) := by simp only [nodesRows, zeroRow_nodes, hsz]; omega
  simp only [Go.Vt.nodes, nodesRows_app, h1]
  omega
theorem nodesRows_take_le (n : Nat) (rows : List (List C)) : nodesRows (rows.take n) ≤ nodesRows rows := by
  have := nodesRows_take n rows; omega
/-- A copy of rows of scalars is an own one. -/
theorem copied_ownS {P : Program} {tab : Nat → List CT} {f : FuncId} {E sz : Nat} (n : Nat) (h : CopiedOK P tab f E sz) (hsz : (tab E).length = sz) (h64 : sz ≤ 64) (hs : (tab E).all scalar = true) : OwnS P tab n f E := by
  intro F w v c hn hl ht hr hF
  cases c with
  | int | bool | str => simp [Ht] at ht
  | sl s len cap rows =>
    simp only [Ht] at ht
    obtain ⟨e, he, h1, h2⟩ := ht
    injection he with he
    subst he
    obtain rfl : s = sz := h1.trans hsz
    have hr' := hr
    simp only [Rd] at hr'
    obtain ⟨a, _, hlen, _, _⟩ := hr'
    have hnd := nodesRows_len rows
    simp only [Go.Vt.nodes, limL] at hl
    refine (h F w v len cap rows hr h2 (by omega) hF).mono ?_
    rintro e w' ⟨g, rfl, hc⟩
    have hht : HtRows tab (tab E) (rows.take len ++ [(tab E).map (zeroC tab), (tab E).map (zeroC tab)]) :=
      HtRows.app _ _ (HtRows.take len rows h2) (by simp only [HtRows]; exact ⟨zeroRow_ht tab _, zeroRow_ht tab _, trivial⟩)
    obtain ⟨k1, k2⟩ := scalarRows_rd (F' := Nw w.heap.size w') hs _ 0 hht hc.rd
    obtain ⟨cc, hb, hcs⟩ := hc.blk
    have hlr : (rows.take len ++ [(tab E).map (zeroC tab), (tab E).map (zeroC tab)]).length = len + 2 := by simp [Nat.min_eq_left hlen]
    refine ⟨_, .sl s len (len + 2) (rows.take len ++ [(tab E).map (zeroC tab), (tab E).map (zeroC tab)]), rfl, ⟨?_, ?_, ?_, ?_⟩, hc.bel⟩
    · simp only [Ht]; exact ⟨E, rfl, h1, hht⟩
    · simp only [Roomy]; exact ⟨hlr, k2⟩
    · have := Copy.nodes (rows := rows) (len := len) (tab := tab) (E := E) hsz h64
      have := nodesRows_take_le len rows
      simp only [Go.Vt.nodes] at *; omega
    · simp only [Rd]
      exact ⟨_, rfl, by omega, by omega, .inr ⟨g, 0, rfl, ⟨hc.ge, (Array.getElem?_eq_some_iff.1 hb).1, cc, E, hb⟩, k1⟩⟩

/-- Where the loop stands that copies the rows one by one: i of them are own. -/
structure OwnAt (tab : Nat → List CT) (E sz len : Nat) (rows : List (List C)) (F : Nat → Prop) (w : World) (g i : Nat) (wr : World) : Prop where
  bel : Below w.heap.size w wr
  ge : w.heap.size ≤ g
  blk : ∃ c, wr.heap[g]? = some (.cells c E (0, 0)) ∧ c.size = (len + 2) * sz
  own : ∃ rows1, rows1.length = i ∧ RdRows (Nw (g + 1) wr) wr g sz 0 rows1 ∧ HtRows tab (tab E) rows1 ∧ RoomyRows rows1 ∧ nodesRows rows1 ≤ 200 * nodesRows (rows.take i)
  rest : RdRows F wr g sz (i * sz) ((rows.take len).drop i ++ [(tab E).map (zeroC tab), (tab E).map (zeroC tab)])
theorem OwnAt.start {tab : Nat → List CT} {E sz len : Nat} {rows : List (List C)} {F : Nat → Prop} {w w' : World} {g : Nat} (h : Copy tab E sz len rows F w w' g) : OwnAt tab E sz len rows F w g 0 w' :=
  ⟨h.bel, h.ge, h.blk, ⟨[], rfl, by simp [RdRows], by simp [HtRows], by simp [RoomyRows], by simp [nodesRows]⟩, by simpa using h.rd⟩
/-- The row that comes next: its cells. -/
theorem OwnAt.row {tab : Nat → List CT} {E sz len : Nat} {rows : List (List C)} {F : Nat → Prop} {w wr : World} {g i : Nat} (h : OwnAt tab E sz len rows F w g i wr) (hlen : len ≤ rows.length) (hi : i < len) (hht : HtRows tab (tab E) rows) :
    ∃ r vs, rows[i]? = some r ∧ HtRow tab (tab E) r ∧ RdVals F wr r vs ∧ (∀ j u, vs[j]? = some u → wr.cell? ⟨g, i * sz + j, none⟩ = some u) ∧ nodesRow r ≤ nodesRows rows := by
  have hlt : i < rows.length := by omega
  have hd : (rows.take len).drop i = rows[i] :: (rows.take len).drop (i + 1) := by
    rw [List.drop_eq_getElem_cons (by simp; omega)]; simp
  have hr := h.rest
  rw [hd] at hr
  simp only [List.cons_append, RdRows] at hr
  obtain ⟨vs, k1, k2⟩ := RdRow.vals _ _ hr.1.2
  have ht := HtRows.drop i rows hht
  rw [List.drop_eq_getElem_cons hlt] at ht
  simp only [HtRows] at ht
  refine ⟨rows[i], vs, List.getElem?_eq_getElem hlt, ht.1, k1, k2, ?_⟩
  have := nodesRows_take i rows
  rw [List.drop_eq_getElem_cons hlt] at this
  simp only [nodesRows] at this
  omega
/-- The row's copy is stored back. -/
theorem OwnAt.next {tab : Nat → List CT} {E sz len : Nat} {rows : List (List C)} {F : Nat → Prop} {w wr w2 : World} {g i : Nat} {r r' : List C} {vs' : List Value} (h : OwnAt tab E sz len rows F w g i wr) (hsz : (tab E).length = sz) (hlen : len ≤ rows.length) (hi : i < len) (hr : rows[i]? = some r)
    (hF : ∀ k, F k → k < w.heap.size) (ho : OwnedRow tab (tab E) r r' vs' wr.heap.size w2) (hb : Below wr.heap.size wr w2) : OwnAt tab E sz len rows F w g (i + 1) (w2.setCells g (i * sz) vs') := by
  obtain ⟨rows1, l1, k1, k2, k3, k4⟩ := h.own
  obtain ⟨o1, o2, o3, o4⟩ := OwnedRow.out _ _ _ _ ho
  obtain ⟨c, hb1, hb2⟩ := h.blk
  have hgl : g < wr.heap.size := (Array.getElem?_eq_some_iff.1 hb1).1
  have hg2 : w2.heap[g]? = some (.cells c E (0, 0)) := (hb.block g hgl).trans hb1
  obtain ⟨c', hc1, hc2⟩ := setCells_blk g vs' (i * sz) w2 c E (0, 0) hg2
  have hfr := setCells_fr g vs' (i * sz) w2
  have hlr : r'.length = sz := (HtRow.length _ _ o1).trans hsz
  have hlv : vs'.length = sz := (RdVals.length _ _ o4).trans hlr
  have hlt : i < rows.length := by omega
  have hre : rows[i] = r := by rw [List.getElem?_eq_getElem hlt] at hr; injection hr
  have hd : (rows.take len).drop i = r :: (rows.take len).drop (i + 1) := by
    rw [List.drop_eq_getElem_cons (by simp; omega)]; simp [hre]
  have hmul : (i + 1) * sz ≤ (len + 2) * sz := Nat.mul_le_mul_right _ (by omega)
  rw [Nat.succ_mul] at hmul
  -- cells of g outside of the row stay
  have hout : ∀ o, (o < i * sz ∨ i * sz + sz ≤ o) → (w2.setCells g (i * sz) vs').cell? ⟨g, o, none⟩ = wr.cell? ⟨g, o, none⟩ := fun o ho' => by
    rw [World.cell?_setCells_out g vs' (i * sz) w2 ⟨g, o, none⟩ (fun _ _ => by rw [hlv]; exact ho')]
    exact World.cell?_of_block (w := wr) (hb.block g hgl)
  have hrows : ∀ (G G' : Nat → Prop) (hGG : ∀ k, G k → G' k ∧ (w2.setCells g (i * sz) vs').heap[k]? = wr.heap[k]?) (rs : List (List C)) (o : Nat), (∀ q, o ≤ q → q < o + rs.length * sz → (q < i * sz ∨ i * sz + sz ≤ q)) → RdRows G wr g sz o rs → RdRows G' (w2.setCells g (i * sz) vs') g sz o rs := by
    intro G G' hGG rs o hq hrs
    obtain ⟨fl, f1, f2, f3⟩ := hrs.flat
    refine RdFlat.rows _ fl o (RdFlat.mono hGG _ _ f1) (RdRows.lens _ _ hrs) (fun j u hu => ?_)
    have hj := (List.getElem?_eq_some_iff.1 hu).1
    rw [hout _ (hq _ (by omega) (by omega))]
    exact f3 j u hu
  have hnw : ∀ k, Nw (g + 1) wr k → Nw (g + 1) (w2.setCells g (i * sz) vs') k ∧ (w2.setCells g (i * sz) vs').heap[k]? = wr.heap[k]? := fun k hk => by
    have hkl := hk.2.1
    have h1 := Nw.keep (Fr.of_below hb (fun _ => False)) (fun _ _ _ => by simp) k hk
    have h2 := Nw.keep hfr (fun k' hk' _ e => by omega) k h1.1
    exact ⟨h2.1, h2.2.trans h1.2⟩
  refine ⟨?_, h.ge, ⟨c', hc1, hc2.trans hb2⟩, ⟨rows1 ++ [r'], by simp [l1], ?_, HtRows.app _ _ k2 (by simp only [HtRows]; exact ⟨o1, trivial⟩), RoomyRows.app _ _ k3 (by simp only [RoomyRows]; exact ⟨o2, trivial⟩), ?_⟩, ?_⟩
  · have h1 := h.bel.trans (hb.mono h.bel.size)
    exact h1.trans ⟨hfr.os, hfr.tape, hfr.output, hfr.size, fun k hk => hfr.block k (Nat.lt_of_lt_of_le hk h1.size) (by have := h.ge; omega)⟩
  · rw [RdRows.app]
    refine ⟨hrows _ _ hnw rows1 0 (fun q _ hq => .inl (by rw [l1] at hq; omega)) k1, ?_⟩
    have hvr : RdVals (Nw (g + 1) (w2.setCells g (i * sz) vs')) (w2.setCells g (i * sz) vs') r' vs' := by
      refine RdVals.mono (fun k hk => ?_) _ _ o4
      have h2 := Nw.keep (B := wr.heap.size) hfr (fun k' hk' _ e => by omega) k hk
      exact ⟨(Nw.lower (by omega) k h2.1).1, h2.2⟩
    have hcells : ∀ j u, vs'[j]? = some u → (w2.setCells g (i * sz) vs').cell? ⟨g, i * sz + j, none⟩ = some u := fun j u hu => by
      have hj := (List.getElem?_eq_some_iff.1 hu).1
      rw [World.cell?_setCells_in g vs' (i * sz) w2 (fun j' hj' => by
        rw [cell_of_row _ _ _ _ _ _ hg2, Array.getElem?_eq_getElem (by omega)]; rfl) j hj]
      rw [List.getElem?_eq_getElem hj] at hu; exact hu
    simp only [RdRows, l1, Nat.zero_add, and_true]
    exact ⟨hlr, RdVals.row r' vs' (i * sz) hvr hcells⟩
  · have ht : nodesRows (rows.take (i + 1)) = nodesRows (rows.take i) + (1 + nodesRow r) := by
      rw [List.take_succ_eq_append_getElem hlt, nodesRows_app, hre]; simp [nodesRows]
    rw [nodesRows_app, ht]; simp only [nodesRows]; omega
  · have hr0 := h.rest
    rw [hd] at hr0
    simp only [List.cons_append, RdRows] at hr0
    rw [Nat.succ_mul]
    refine hrows F F (fun k hk => ⟨hk, ?_⟩) _ _ (fun q hq _ => .inr hq) hr0.2
    have := hF k hk
    have hge := h.ge
    rw [setCells_far g k (by omega)]
    exact hb.block k (by have := h.bel.size; omega)
theorem zeroVals_any (tab : Nat → List CT) {F F' : Nat → Prop} {w : World} : ∀ (ts : List CT) (vs : List Value), RdVals F w (ts.map (zeroC tab)) vs → RdVals F' w (ts.map (zeroC tab)) vs
  | [], [], _ => trivial
  | [], _ :: _, h => h.elim
  | _ :: _, [], h => h.elim
  | t :: ts, v :: vs, h => by
    refine ⟨?_, zeroVals_any tab ts vs h.2⟩
    have h1 := h.1
    cases t with
    | sl e => simp only [zeroC, Rd] at h1 ⊢; obtain ⟨a, rfl, h2, h3, _⟩ := h1; exact ⟨a, rfl, h2, h3, .inl (by simp)⟩
    | int k => simpa only [zeroC, Rd] using h1
    | bool => simpa only [zeroC, Rd] using h1
    | str => simpa only [zeroC, Rd] using h1
/-- All rows are own. -/
theorem OwnAt.done {tab : Nat → List CT} {E sz len cap : Nat} {rows : List (List C)} {F : Nat → Prop} {w wr : World} {g : Nat} (h : OwnAt tab E sz len rows F w g len wr) (hsz : (tab E).length = sz) (h64 : sz ≤ 64) (hlen : len ≤ rows.length) :
    ∃ c', Owned tab (.sl E) (.sl sz len cap rows) c' (.slice (some ⟨g, 0, none⟩) len (len + 2)) w.heap.size wr := by
  obtain ⟨rows1, l1, k1, k2, k3, k4⟩ := h.own
  obtain ⟨c, hb1, hb2⟩ := h.blk
  have hgl : g < wr.heap.size := (Array.getElem?_eq_some_iff.1 hb1).1
  have hz : nodesRows [(tab E).map (zeroC tab), (tab E).map (zeroC tab)] = 2 * (1 + sz) := by simp only [nodesRows, zeroRow_nodes, hsz]; omega
  have hrest := h.rest
  rw [List.drop_eq_nil_of_le (by rw [List.length_take]; omega), List.nil_append] at hrest
  refine ⟨.sl sz len (len + 2) (rows1 ++ [(tab E).map (zeroC tab), (tab E).map (zeroC tab)]), ?_, ?_, ?_, ?_⟩
  · simp only [Ht]; exact ⟨E, rfl, hsz.symm, HtRows.app _ _ k2 (by simp only [HtRows]; exact ⟨zeroRow_ht tab _, zeroRow_ht tab _, trivial⟩)⟩
  · simp only [Roomy]; exact ⟨by simp [l1], RoomyRows.app _ _ k3 (by simp only [RoomyRows]; exact ⟨zeroRow_roomy tab _, zeroRow_roomy tab _, trivial⟩)⟩
  · have := nodesRows_take_le len rows
    simp only [Go.Vt.nodes, nodesRows_app, hz]; omega
  · simp only [Rd]
    refine ⟨_, rfl, by simp [l1], by simp [l1], .inr ⟨g, 0, rfl, ⟨h.ge, hgl, c, E, hb1⟩, ?_⟩⟩
    rw [RdRows.app]
    refine ⟨Rd.monoRows (F := Nw (g + 1) wr) (fun k hk => Nw.lower (by have := h.ge; omega) k hk) g sz rfl _ _ k1, ?_⟩
    rw [l1, Nat.zero_add]
    obtain ⟨fl, f1, f2, f3⟩ := hrest.flat
    simp only [RdFlat] at f1
    obtain ⟨v1, v2, rfl, m1, v3, v4, rfl, m2, rfl⟩ := f1
    exact RdFlat.rows _ _ _ ⟨v1, _, rfl, zeroVals_any tab _ _ m1, v3, [], rfl, zeroVals_any tab _ _ m2, rfl⟩ (by simp [hsz]) f3
theorem HtRow.cons {tab : Nat → List CT} {t : CT} {ts : List CT} {cs : List C} (h : HtRow tab (t :: ts) cs) : ∃ c cs', cs = c :: cs' ∧ Ht tab t c ∧ HtRow tab ts cs' := by
  cases cs with
  | nil => simp [HtRow] at h
  | cons c cs => simp only [HtRow] at h; exact ⟨c, cs, rfl, h.1, h.2⟩
theorem HtRow.nil {tab : Nat → List CT} {cs : List C} (h : HtRow tab [] cs) : cs = [] := by
  cases cs with
  | nil => rfl
  | cons c cs => simp [HtRow] at h
theorem RdVals.cons {F : Nat → Prop} {w : World} {c : C} {cs : List C} {vs : List Value} (h : RdVals F w (c :: cs) vs) : ∃ v vs', vs = v :: vs' ∧ Rd F w c v ∧ RdVals F w cs vs' := by
  cases vs with
  | nil => exact h.elim
  | cons v vs => exact ⟨v, vs, rfl, h.1, h.2⟩
theorem RdVals.nil {F : Nat → Prop} {w : World} {vs : List Value} (h : RdVals F w [] vs) : vs = [] := by
  cases vs with
  | nil => rfl
  | cons v vs => exact h.elim
theorem OwnedRow.len {tab : Nat → List CT} {B : Nat} {w : World} {ts : List CT} {cs cs' : List C} {vs : List Value} (h : OwnedRow tab ts cs cs' vs B w) : vs.length = ts.length := by
  obtain ⟨h1, _, _, h4⟩ := OwnedRow.out _ _ _ _ h
  exact (RdVals.length _ _ h4).trans (HtRow.length _ _ h1)
theorem len_cons {α : Type} {n : Nat} {l : List α} (h : l.length = n + 1) : ∃ a t, l = a :: t ∧ t.length = n := by
  cases l with
  | nil => simp at h
  | cons a t => exact ⟨a, t, rfl, by simpa using h⟩
theorem len_nil {α : Type} {l : List α} (h : l.length = 0) : l = [] := List.length_eq_zero_iff.1 h
theorem OwnedRow.app {tab : Nat → List CT} {B : Nat} {w : World} : ∀ (t1 t2 : List CT) (c1 c2 d1 d2 : List C) (v1 v2 : List Value), OwnedRow tab t1 c1 d1 v1 B w → OwnedRow tab t2 c2 d2 v2 B w → OwnedRow tab (t1 ++ t2) (c1 ++ c2) (d1 ++ d2) (v1 ++ v2) B w
  | [], _, [], _, [], _, [], _, _, h' => h'
  | t :: ts, t2, c :: cs, c2, d :: ds, d2, v :: vs, v2, h, h' => ⟨h.1, OwnedRow.app ts t2 cs c2 ds d2 vs v2 h.2 h'⟩
  | [], _, [], _, [], _, _ :: _, _, h, _ => h.elim
  | [], _, [], _, _ :: _, _, _, _, h, _ => by cases h
  | [], _, _ :: _, _, _, _, _, _, h, _ => by cases h
  | _ :: _, _, [], _, _, _, _, _, h, _ => by cases h
  | _ :: _, _, _ :: _, _, [], _, _, _, h, _ => by cases h
  | _ :: _, _, _ :: _, _, _ :: _, _, [], _, h, _ => by cases h
theorem OwnS.le {P : Program} {tab : Nat → List CT} {n m : Nat} {f : FuncId} {E : Nat} (h : OwnS P tab n f E) (hm : m ≤ n) : OwnS P tab m f E := fun F w v c hn => h F w v c (Nat.le_trans hn hm)
theorem OwnA.le {P : Program} {tab : Nat → List CT} {n m : Nat} {f : FuncId} {cts : List CT} (h : OwnA P tab n f cts) (hm : m ≤ n) : OwnA P tab m f cts := fun F w vs cs hn => h F w vs cs (Nat.le_trans hn hm)
theorem rd_fr {F : Nat → Prop} {w W : World} {S : Nat → Prop} (hF : ∀ k, F k → k < w.heap.size) (hf : Fr S w W) (hs : ∀ k, k < w.heap.size → ¬ S k) : ∀ k, F k → F k ∧ W.heap[k]? = w.heap[k]? := fun k hk => ⟨hk, hf.block k (hF k hk) (hs k (hF k hk))⟩
theorem ht_sl {tab : Nat → List CT} {E : Nat} {c : C} (h : Ht tab (.sl E) c) : ∃ sz len cap rows, c = .sl sz len cap rows := by
  cases c with
  | sl a b d e => exact ⟨a, b, d, e, rfl⟩
  | _ => simp [Ht] at h
theorem alloc_size' (w : World) (o : Obj) : (w.alloc o).heap.size = w.heap.size + 1 := by show (w.heap.push _).size = _; rw [Array.size_push]
theorem Owned.slf {tab : Nat → List CT} {E : Nat} {c c' : C} {v : Value} {B : Nat} {w : World} (h : Owned tab (.sl E) c c' v B w) : ∃ a l k, v = .slice a l k := by
  have h1 := h.ht
  cases c' with
  | sl sz len cap rows => have h2 := h.rd; simp only [Rd] at h2; obtain ⟨a, rfl, _⟩ := h2; exact ⟨_, _, _, rfl⟩
  | _ => simp [Ht] at h1
theorem Owned.intf {tab : Nat → List CT} {k : IntKind} {c c' : C} {v : Value} {B : Nat} {w : World} (h : Owned tab (.int k) c c' v B w) : ∃ n, v = .int k n := by
  have h1 := h.ht
  cases c' with
  | int k' n => have h2 := h.rd; simp only [Rd] at h2; simp only [Ht] at h1; obtain ⟨h1, _⟩ := h1; injection h1 with h1; subst h1; subst h2; exact ⟨_, rfl⟩
  | _ => simp [Ht] at h1
theorem Owned.strf {tab : Nat → List CT} {c c' : C} {v : Value} {B : Nat} {w : World} (h : Owned tab .str c c' v B w) : ∃ s, v = .string s := by
  have h1 := h.ht
  cases c' with
  | str s => have h2 := h.rd; simp only [Rd] at h2; subst h2; exact ⟨_, rfl⟩
  | _ => simp [Ht] at h1
theorem Owned.boolf {tab : Nat → List CT} {c c' : C} {v : Value} {B : Nat} {w : World} (h : Owned tab .bool c c' v B w) : ∃ s, v = .bool s := by
  have h1 := h.ht
  cases c' with
  | bool s => have h2 := h.rd; simp only [Rd] at h2; subst h2; exact ⟨_, rfl⟩
  | _ => simp [Ht] at h1
theorem OwnedRow.cons {tab : Nat → List CT} {t : CT} {ts : List CT} {c : C} {cs cs' : List C} {v : Value} {vs : List Value} {B : Nat} {w : World} (h : OwnedRow tab (t :: ts) (c :: cs) cs' (v :: vs) B w) : ∃ d ds, cs' = d :: ds ∧ Owned tab t c d v B w ∧ OwnedRow tab ts cs ds vs B w := by
  cases cs' with
  | nil => exact h.elim
  | cons d ds => exact ⟨d, ds, rfl, h.1, h.2⟩
theorem OwnedRow.nil {tab : Nat → List CT} {cs' : List C} {B : Nat} {w : World} (h : OwnedRow tab [] [] cs' [] B w) : cs' = [] := by
  cases cs' with
  | nil => rfl
  | cons d ds => exact h.elim
theorem Ht.slf {tab : Nat → List CT} {E : Nat} {c : C} {v : Value} {F : Nat → Prop} {w : World} (h1 : Ht tab (.sl E) c) (h2 : Rd F w c v) : ∃ a l k, v = .slice a l k := by
  cases c with
  | sl sz len cap rows => simp only [Rd] at h2; obtain ⟨a, rfl, _⟩ := h2; exact ⟨_, _, _, rfl⟩
  | _ => simp [Ht] at h1
theorem Ht.intf {tab : Nat → List CT} {k : IntKind} {c : C} {v : Value} {F : Nat → Prop} {w : World} (h1 : Ht tab (.int k) c) (h2 : Rd F w c v) : ∃ n, v = .int k n := by
  cases c with
  | int k' n => simp only [Rd] at h2; simp only [Ht] at h1; obtain ⟨h1, _⟩ := h1; injection h1 with h1; subst h1; subst h2; exact ⟨_, rfl⟩
  | _ => simp [Ht] at h1
theorem Ht.strf {tab : Nat → List CT} {c : C} {v : Value} {F : Nat → Prop} {w : World} (h1 : Ht tab .str c) (h2 : Rd F w c v) : ∃ s, v = .string s := by
  cases c with
  | str s => simp only [Rd] at h2; subst h2; exact ⟨_, rfl⟩
  | _ => simp [Ht] at h1
theorem Ht.boolf {tab : Nat → List CT} {c : C} {v : Value} {F : Nat → Prop} {w : World} (h1 : Ht tab .bool c) (h2 : Rd F w c v) : ∃ s, v = .bool s := by
  cases c with
  | bool s => simp only [Rd] at h2; subst h2; exact ⟨_, rfl⟩
  | _ => simp [Ht] at h1
theorem OwnedRow.cons2 {tab : Nat → List CT} {t : CT} {ts : List CT} {cs cs' : List C} {v : Value} {vs : List Value} {B : Nat} {w : World} (h : OwnedRow tab (t :: ts) cs cs' (v :: vs) B w) : ∃ c cs0 d ds, cs = c :: cs0 ∧ cs' = d :: ds ∧ Owned tab t c d v B w ∧ OwnedRow tab ts cs0 ds vs B w := by
  cases cs with
  | nil => cases h
  | cons c cs =>
  cases cs' with
  | nil => cases h
  | cons d ds => exact ⟨c, cs, d, ds, rfl, rfl, h.1, h.2⟩
end Go.Vt
