/- Copies of data: the zero rows, rows flat, data in new memory. -/
import Derived.Test.YtgkamgijnhbcbaaGreatDoorEye
import Derived.Laws.MakeOwn
import Derived.Lib.JoinLaws
import Derived.Laws.NewBlocks
namespace Go.Vt
open Go.RowKit

/-! ### zero values -/
def zeroC (tab : Nat → List CT) : CT → C
  | .int k => .int k 0
  | .bool => .bool false
  | .str => .str ByteArray.empty
  | .sl e => .sl (tab e).length 0 0 []
def zeroV : CT → Value
  | .int k => .int k 0
  | .bool => .bool false
  | .str => .string ByteArray.empty
  | .sl _ => .slice none 0 0
theorem zeroC_ht (tab : Nat → List CT) : ∀ t, Ht tab t (zeroC tab t)
  | .int k => by simp only [zeroC, Ht, true_and]; cases k <;> rfl
  | .bool => by simp [zeroC, Ht]
  | .str => by simp only [zeroC, Ht, true_and]; exact Nat.zero_le _
  | .sl e => by simp only [zeroC, Ht]; exact ⟨e, rfl, rfl, by simp [HtRows]⟩
theorem zeroRow_ht (tab : Nat → List CT) : ∀ ts : List CT, HtRow tab ts (ts.map (zeroC tab))
  | [] => by simp [HtRow]
  | t :: ts => by simp only [List.map_cons, HtRow]; exact ⟨zeroC_ht tab t, zeroRow_ht tab ts⟩
theorem zeroC_rd (tab : Nat → List CT) (F : Nat → Prop) (w : World) : ∀ t, Rd F w (zeroC tab t) (zeroV t)
  | .int _ | .bool | .str => by simp [zeroC, zeroV, Rd]
  | .sl _ => by simp only [zeroC, zeroV, Rd]; exact ⟨none, rfl, by simp, by simp, .inl (by simp)⟩
theorem zeroRow_rd (tab : Nat → List CT) (F : Nat → Prop) (w : World) : ∀ ts : List CT, RdVals F w (ts.map (zeroC tab)) (ts.map zeroV)
  | [] => trivial
  | t :: ts => ⟨zeroC_rd tab F w t, zeroRow_rd tab F w ts⟩
theorem zeroC_nodes (tab : Nat → List CT) (t : CT) : nodes (zeroC tab t) = 1 := by cases t <;> simp [zeroC, nodes, nodesRows]
theorem zeroRow_nodes (tab : Nat → List CT) : ∀ ts : List CT, nodesRow (ts.map (zeroC tab)) = ts.length
  | [] => rfl
  | t :: ts => by simp only [List.map_cons, nodesRow, zeroC_nodes, zeroRow_nodes tab ts, List.length_cons]; omega
theorem zeroC_roomy (tab : Nat → List CT) (t : CT) : Roomy (zeroC tab t) := by cases t <;> simp [zeroC, Roomy, RoomyRows]
theorem zeroRow_roomy (tab : Nat → List CT) : ∀ ts : List CT, RoomyRow (ts.map (zeroC tab))
  | [] => by simp [RoomyRow]
  | t :: ts => by simp only [List.map_cons, RoomyRow]; exact ⟨zeroC_roomy tab t, zeroRow_roomy tab ts⟩

/-! ### rows, flat -/
theorem RdVals.length {F : Nat → Prop} {w : World} : ∀ (cs : List C) (vs : List Value), RdVals F w cs vs → vs.length = cs.length
  | [], [], _ => rfl
  | c :: cs, v :: vs, h => by simp [RdVals.length cs vs h.2]
  | [], _ :: _, h => h.elim
  | _ :: _, [], h => h.elim
theorem RdRow.vals {F : Nat → Prop} {w : World} {b : Nat} : ∀ (cs : List C) (o : Nat), RdRow F w b o cs → ∃ vs, RdVals F w cs vs ∧ ∀ j u, vs[j]? = some u → w.cell? ⟨b, o + j, none⟩ = some u
  | [], _, _ => ⟨[], trivial, by simp⟩
  | c :: cs, o, h => by
    simp only [RdRow] at h
    obtain ⟨⟨v, h1, h2⟩, h3⟩ := h
    obtain ⟨vs, k1, k2⟩ := RdRow.vals cs (o + 1) h3
    refine ⟨v :: vs, ⟨h2, k1⟩, fun j u hu => ?_⟩
    cases j with
    | zero => simp at hu; subst hu; exact h1
    | succ j => rw [show o + (j + 1) = o + 1 + j from by omega]; exact k2 j u (by simpa using hu)
theorem RdVals.row {F : Nat → Prop} {w : World} {b : Nat} : ∀ (cs : List C) (vs : List Value) (o : Nat), RdVals F w cs vs → (∀ j u, vs[j]? = some u → w.cell? ⟨b, o + j, none⟩ = some u) → RdRow F w b o cs
  | [], _, _, _, _ => by simp [RdRow]
  | c :: cs, [], _, h, _ => h.elim
  | c :: cs, v :: vs, o, h, hc => by
    simp only [RdRow]
    exact ⟨⟨v, by simpa using hc 0 v rfl, h.1⟩, RdVals.row cs vs (o + 1) h.2 (fun j u hu => by rw [show o + 1 + j = o + (j + 1) from by omega]; exact hc (j + 1) u (by simpa using hu))⟩
/-- The cells of rows, one behind the other. -/
def RdFlat (F : Nat → Prop) (w : World) : List (List C) → List Value → Prop
  | [], vs => vs = []
  | r :: rs, vs => ∃ v1 v2, vs = v1 ++ v2 ∧ RdVals F w r v1 ∧ RdFlat F w rs v2
theorem RdFlat.mono {F F' : Nat → Prop} {w w' : World} (h : ∀ b, F b → F' b ∧ w'.heap[b]? = w.heap[b]?) : ∀ (rs : List (List C)) (vs : List Value), RdFlat F w rs vs → RdFlat F' w' rs vs
  | [], _, hr => hr
  | r :: rs, _, ⟨v1, v2, e, h1, h2⟩ => ⟨v1, v2, e, RdVals.mono h r v1 h1, RdFlat.mono h rs v2 h2⟩
theorem RdRows.flat {F : Nat → Prop} {w : World} {b sz : Nat} : ∀ (rs : List (List C)) (o : Nat), RdRows F w b sz o rs → ∃ vs, RdFlat F w rs vs ∧ vs.length = rs.length * sz ∧ (∀ j u, vs[j]? = some u → w.cell? ⟨b, o + j, none⟩ = some u)
  | [], _, _ => ⟨[], rfl, by simp, by simp⟩
  | r :: rs, o, h => by
    simp only [RdRows] at h
    obtain ⟨v1, k1, k2⟩ := RdRow.vals r o h.1.2
    obtain ⟨v2, m1, m2, m3⟩ := RdRows.flat rs (o + sz) h.2
    have hl : v1.length = sz := (RdVals.length r v1 k1).trans h.1.1
    refine ⟨v1 ++ v2, ⟨v1, v2, rfl, k1, m1⟩, by simp [hl, m2, Nat.succ_mul]; omega, fun j u hu => ?_⟩
    by_cases hj : j < sz
    · rw [List.getElem?_append_left (by omega)] at hu; exact k2 j u hu
    · rw [List.getElem?_append_right (by omega), hl] at hu
      have := m3 (j - sz) u hu
      rwa [show o + sz + (j - sz) = o + j from by omega] at this
theorem RdFlat.rows {F : Nat → Prop} {w : World} {b sz : Nat} : ∀ (rs : List (List C)) (vs : List Value) (o : Nat), RdFlat F w rs vs → (∀ r ∈ rs, r.length = sz) → (∀ j u, vs[j]? = some u → w.cell? ⟨b, o + j, none⟩ = some u) → RdRows F w b sz o rs
  | [], _, _, _, _, _ => by simp [RdRows]
  | r :: rs, vs, o, ⟨v1, v2, e, h1, h2⟩, hl, hc => by
    subst e
    have hl1 : v1.length = sz := (RdVals.length r v1 h1).trans (hl r (by simp))
    simp only [RdRows]
    refine ⟨⟨hl r (by simp), RdVals.row r v1 o h1 (fun j u hu => hc j u ?_)⟩, RdFlat.rows rs v2 (o + sz) h2 (fun x hx => hl x (by simp [hx])) (fun j u hu => ?_)⟩
    · have hj : j < v1.length := (List.getElem?_eq_some_iff.1 hu).1
      rw [List.getElem?_append_left hj]; exact hu
    · rw [show o + sz + j = o + (sz + j) from by omega]
      refine hc (sz + j) u ?_
      rw [List.getElem?_append_right (by omega), hl1, show sz + j - sz = j from by omega]; exact hu
theorem RdRows.app {F : Nat → Prop} {w : World} {b sz : Nat} : ∀ (a c : List (List C)) (o : Nat), RdRows F w b sz o (a ++ c) ↔ RdRows F w b sz o a ∧ RdRows F w b sz (o + a.length * sz) c
  | [], c, o => by simp [RdRows]
  | r :: rs, c, o => by
    simp only [List.cons_append, RdRows, RdRows.app rs c (o + sz), List.length_cons]
    rw [show o + (rs.length + 1) * sz = o + sz + rs.length * sz from by rw [Nat.succ_mul]; omega]
    constructor
    · rintro ⟨h1, h2, h3⟩; exact ⟨⟨h1, h2⟩, h3⟩
    · rintro ⟨⟨h1, h2⟩, h3⟩; exact ⟨h1, h2, h3⟩
theorem Rd.oneCell {F : Nat → Prop} {w : World} : ∀ (c : C) (v : Value), Rd F w c v → v.oneCell' = true
  | .int .., v, h => by simp only [Rd] at h; subst h; rfl
  | .bool .., v, h => by simp only [Rd] at h; subst h; rfl
  | .str .., v, h => by simp only [Rd] at h; subst h; rfl
  | .sl .., v, h => by simp only [Rd] at h; obtain ⟨a, rfl, _⟩ := h; rfl
theorem RdVals.oneCell {F : Nat → Prop} {w : World} : ∀ (cs : List C) (vs : List Value), RdVals F w cs vs → ∀ u ∈ vs, u.oneCell' = true
  | [], [], _ => by simp
  | c :: cs, v :: vs, h => by
    intro u hu
    rcases List.mem_cons.1 hu with rfl | hu
    · exact Rd.oneCell c _ h.1
    · exact RdVals.oneCell cs vs h.2 u hu
  | [], _ :: _, h => h.elim
  | _ :: _, [], h => h.elim
theorem RdFlat.oneCell {F : Nat → Prop} {w : World} : ∀ (rs : List (List C)) (vs : List Value), RdFlat F w rs vs → ∀ u ∈ vs, u.oneCell' = true
  | [], _, h => by simp only [RdFlat] at h; subst h; simp
  | r :: rs, vs, ⟨v1, v2, e, h1, h2⟩ => by
    subst e
    intro u hu
    rcases List.mem_append.1 hu with hu | hu
    · exact RdVals.oneCell r v1 h1 u hu
    · exact RdFlat.oneCell rs v2 h2 u hu
theorem RdFlat.app {F : Nat → Prop} {w : World} : ∀ (a c : List (List C)) (v1 v2 : List Value), RdFlat F w a v1 → RdFlat F w c v2 → RdFlat F w (a ++ c) (v1 ++ v2)
  | [], _, _, _, h, h' => by simp only [RdFlat] at h; subst h; simpa using h'
  | r :: rs, c, _, v2, ⟨x, y, e, h1, h2⟩, h' => ⟨x, y ++ v2, by rw [e, List.append_assoc], h1, RdFlat.app rs c y v2 h2 h'⟩
theorem RdRows.take {F : Nat → Prop} {w : World} {b sz o : Nat} {rs : List (List C)} (n : Nat) (h : RdRows F w b sz o rs) : RdRows F w b sz o (rs.take n) := by
  rw [← List.take_append_drop n rs] at h
  exact ((RdRows.app _ _ o).1 h).1
theorem RdRows.drop {F : Nat → Prop} {w : World} {b sz o : Nat} {rs : List (List C)} (n : Nat) (hn : n ≤ rs.length) (h : RdRows F w b sz o rs) : RdRows F w b sz (o + n * sz) (rs.drop n) := by
  rw [← List.take_append_drop n rs] at h
  have := ((RdRows.app _ _ o).1 h).2
  rwa [List.length_take, Nat.min_eq_left hn] at this
theorem RdRows.lens {F : Nat → Prop} {w : World} {b sz : Nat} : ∀ (rs : List (List C)) (o : Nat), RdRows F w b sz o rs → ∀ r ∈ rs, r.length = sz
  | [], _, _ => by simp
  | x :: xs, o, h => by
    simp only [RdRows] at h
    intro r hr
    rcases List.mem_cons.1 hr with rfl | hr
    · exact h.1.1
    · exact RdRows.lens xs (o + sz) h.2 r hr
theorem HtRows.lens {tab : Nat → List CT} {ts : List CT} {n : Nat} (hn : ts.length = n) : ∀ (rows : List (List C)), HtRows tab ts rows → ∀ r ∈ rows, r.length = n
  | [], _ => by simp
  | x :: xs, h => by
    simp only [HtRows] at h
    intro r hr
    rcases List.mem_cons.1 hr with rfl | hr
    · exact (HtRow.length ts _ h.1).trans hn
    · exact HtRows.lens hn xs h.2 r hr
theorem HtRows.take {tab : Nat → List CT} {ts : List CT} : ∀ (n : Nat) (rows : List (List C)), HtRows tab ts rows → HtRows tab ts (rows.take n)
  | 0, _, _ => by simp [HtRows]
  | n + 1, [], _ => by simp [HtRows]
  | n + 1, r :: rs, h => by simp only [HtRows] at h; simp only [List.take_succ_cons, HtRows]; exact ⟨h.1, HtRows.take n rs h.2⟩
theorem HtRows.app {tab : Nat → List CT} {ts : List CT} : ∀ (a b : List (List C)), HtRows tab ts a → HtRows tab ts b → HtRows tab ts (a ++ b)
  | [], _, _, h => h
  | r :: rs, b, h, h' => by simp only [HtRows] at h; simp only [List.cons_append, HtRows]; exact ⟨h.1, HtRows.app rs b h.2 h'⟩
theorem RoomyRows.app : ∀ (a b : List (List C)), RoomyRows a → RoomyRows b → RoomyRows (a ++ b)
  | [], _, _, h => h
  | r :: rs, b, h, h' => by simp only [RoomyRows] at h; simp only [List.cons_append, RoomyRows]; exact ⟨h.1, RoomyRows.app rs b h.2 h'⟩

/-- What a copy of rows with two places of room comes to. -/
structure Copy (tab : Nat → List CT) (E sz len : Nat) (rows : List (List C)) (F : Nat → Prop) (w w' : World) (g : Nat) : Prop where
  ge : w.heap.size ≤ g
  bel : Below w.heap.size w w'
  blk : ∃ c, w'.heap[g]? = some (.cells c E (0, 0)) ∧ c.size = (len + 2) * sz
  rd : RdRows F w' g sz 0 (rows.take len ++ [(tab E).map (zeroC tab), (tab E).map (zeroC tab)])
def CopiedOK (P : Program) (tab : Nat → List CT) (f : FuncId) (E sz : Nat) : Prop :=
  ∀ (F : Nat → Prop) (w : World) (v : Value) (len cap : Nat) (rows : List (List C)), Rd F w (.sl sz len cap rows) v → HtRows tab (tab E) rows → len ≤ 68719476736 → (∀ k, F k → k < w.heap.size) →
    Calls P f #[v] w fun e w' => ∃ g, e = .returned (.slice (some ⟨g, 0, none⟩) len (len + 2)) ∧ Copy tab E sz len rows F w w' g

theorem setCells_blk (g : Nat) : ∀ (vs : List Value) (o : Nat) (w : World) (c : Array Value) (e : Nat) (fr : Nat × Nat), w.heap[g]? = some (.cells c e fr) → ∃ c', (w.setCells g o vs).heap[g]? = some (.cells c' e fr) ∧ c'.size = c.size
  | [], _, _, c, _, _, h => ⟨c, h, rfl⟩
  | v :: r, o, w, c, e, fr, h => by
    obtain ⟨c', h1, h2⟩ := setCells_blk g r (o + 1) (w.setCell ⟨g, o, none⟩ v) _ e fr (heap_setCell_at h)
    exact ⟨c', h1, by rw [h2]; simp⟩
theorem setCells_far (g k : Nat) (hk : k ≠ g) : ∀ (vs : List Value) (o : Nat) (w : World), (w.setCells g o vs).heap[k]? = w.heap[k]?
  | [], _, _ => rfl
  | v :: r, o, w => by rw [World.setCells, setCells_far g k hk r (o + 1), Below.heap_setCell _ _ _ _ hk]
theorem setCells_same (g : Nat) : ∀ (vs : List Value) (o : Nat) (w : World), (w.setCells g o vs).os = w.os ∧ (w.setCells g o vs).tape = w.tape ∧ (w.setCells g o vs).output = w.output ∧ (w.setCells g o vs).heap.size = w.heap.size
  | [], _, _ => ⟨rfl, rfl, rfl, rfl⟩
  | v :: r, o, w => by
    obtain ⟨h1, h2, h3, h4⟩ := setCells_same g r (o + 1) (w.setCell ⟨g, o, none⟩ v)
    exact ⟨h1, h2, h3, h4.trans (by simp [World.setCell])⟩
theorem setCells_fr (g : Nat) (vs : List Value) (o : Nat) (w : World) : Fr (fun k => k = g) w (w.setCells g o vs) := by
  obtain ⟨h1, h2, h3, h4⟩ := setCells_same g vs o w
  exact ⟨h1, h2, h3, by omega, fun k _ hk => setCells_far g k hk vs o w⟩
/-- What a slice that reads hands to an append, behind one new block. -/
theorem Rd.src {P : Program} {F : Nat → Prop} {w : World} {sz len cap : Nat} {rows : List (List C)} {v : Value} (tx e : Nat) (hk : P.underlying tx = some (.slice e)) (h : Rd F w (.sl sz len cap rows) v) (X : Obj) :
    ∃ news, Src P sz tx v len news (w.alloc X) ∧ RdFlat F w (rows.take len) news ∧ news.length = len * sz := by
  simp only [Rd] at h
  obtain ⟨a, rfl, h2, h3, h4⟩ := h
  rcases h4 with rfl | ⟨b, o, rfl, hF, h4⟩
  · obtain rfl : len = 0 := by simpa using h2
    cases a with
    | none => exact ⟨[], Src.ofNil _ hk cap, by simp [RdFlat], by simp⟩
    | some a => exact ⟨[], Src.ofSlice _ hk a 0 cap [] (by simp) (by simp) (by simp), by simp [RdFlat], by simp⟩
  · obtain ⟨news, k1, k2, k3⟩ := (RdRows.take len h4).flat
    have hl : news.length = len * sz := by rw [k2, List.length_take, Nat.min_eq_left h2]
    refine ⟨news, Src.ofSlice _ hk ⟨b, o, none⟩ len cap news hl (fun j u hu => ?_) (RdFlat.oneCell _ _ k1), k1, hl⟩
    have hc := k3 j u hu
    have hadd : (⟨b, o, none⟩ : Addr).add j = ⟨b, o + j, none⟩ := by unfold Addr.add; split <;> simp_all
    rw [hadd, World.cell?_alloc_past _ _ _ (World.block_lt_of_cell? w _ hc)]
    exact hc
theorem copy_done {tab : Nat → List CT} {E sz len : Nat} {rows : List (List C)} {F : Nat → Prop} {w : World} {z : Value} {news : List Value} (hz : z.cells.toList = (tab E).map zeroV) (hsz : (tab E).length = sz) (hF : ∀ k, F k → k < w.heap.size)
    (hl : news.length = len * sz) (hlr : len ≤ rows.length) (hlen : ∀ r ∈ rows, r.length = sz) (hr : RdFlat F w (rows.take len) news) :
    Copy tab E sz len rows F w ((w.alloc (.cells (madeCells z.cells ((len + 2) * sz)) E)).setCells w.heap.size 0 news) w.heap.size := by
  have hms : (madeCells z.cells ((len + 2) * sz)).size = (len + 2) * sz := size_madeCells _ _
  have hb0 : (w.alloc (.cells (madeCells z.cells ((len + 2) * sz)) E)).heap[w.heap.size]? = some (.cells (madeCells z.cells ((len + 2) * sz)) E (0, 0)) := heap_alloc_new w _
  obtain ⟨c', hb1, hb2⟩ := setCells_blk w.heap.size news 0 _ _ _ _ hb0
  have hmul : (len + 2) * sz = len * sz + 2 * sz := by rw [Nat.add_mul]
  have hcell0 : ∀ j, j < (len + 2) * sz → ∃ u, (madeCells z.cells ((len + 2) * sz))[j]? = some u := fun j hj => ⟨_, Array.getElem?_eq_getElem (by rw [hms]; exact hj)⟩
  have hF' : ∀ b, F b → F b ∧ ((w.alloc (.cells (madeCells z.cells ((len + 2) * sz)) E)).setCells w.heap.size 0 news).heap[b]? = w.heap[b]? := fun b hb => by
    have := hF b hb
    exact ⟨hb, by rw [setCells_far _ _ (by omega), Below.heap_alloc _ _ _ this]⟩
  have hbel : Below w.heap.size w ((w.alloc (.cells (madeCells z.cells ((len + 2) * sz)) E)).setCells w.heap.size 0 news) :=
    (((Fr.refl (fun k => k = w.heap.size) w).alloc _).trans' (setCells_fr w.heap.size news 0 _) (fun _ _ h => h)).below (Nat.le_refl _) (fun k hk e => by omega)
  refine ⟨Nat.le_refl _, hbel, ⟨c', hb1, hb2.trans hms⟩, ?_⟩
  rw [RdRows.app, List.length_take, Nat.min_eq_left hlr]
  constructor
  · refine RdFlat.rows _ _ 0 (RdFlat.mono hF' _ _ hr) (fun r hr => hlen r (List.mem_of_mem_take hr)) (fun j u hu => ?_)
    have hj := (List.getElem?_eq_some_iff.1 hu).1
    have := World.cell?_setCells_in w.heap.size news 0 (w.alloc (.cells (madeCells z.cells ((len + 2) * sz)) E)) (fun j hj => by
      obtain ⟨x, hx⟩ := hcell0 j (by omega)
      rw [cell_of_row _ _ _ _ _ _ hb0, Nat.zero_add, hx]; rfl) j hj
    rw [this]; rw [List.getElem?_eq_getElem hj] at hu; exact hu
  · have hzl : ((tab E).map zeroV).length = sz := by simpa using hsz
    have hzr : RdFlat F ((w.alloc (.cells (madeCells z.cells ((len + 2) * sz)) E)).setCells w.heap.size 0 news) [(tab E).map (zeroC tab), (tab E).map (zeroC tab)] ((tab E).map zeroV ++ (tab E).map zeroV) :=
      ⟨_, _, rfl, zeroRow_rd tab F _ _, _, [], by simp, zeroRow_rd tab F _ _, rfl⟩
    refine RdFlat.rows _ _ (0 + len * sz) hzr (by simp [hsz]) (fun j u hu => ?_)
    have hj : j < 2 * sz := by have := (List.getElem?_eq_some_iff.1 hu).1; simp at this; omega
    rw [World.cell?_setCells_out _ _ _ _ _ (fun _ _ => .inr (by simp [hl]))]
    have hne : 0 < sz := by omega
    have hidx : (madeCells z.cells ((len + 2) * sz))[0 + len * sz + j]? = z.cells[(0 + len * sz + j) % z.cells.size]? := by
      have hzs : z.cells.size = sz := by rw [← Array.length_toList, hz, hzl]
      have hlt : (0 + len * sz + j) % z.cells.size < z.cells.size := Nat.mod_lt _ (by omega)
      simp only [madeCells]
      rw [Array.getElem?_map, Array.getElem?_range, if_pos (by omega)]
      simp only [Option.map_some]
      rw [Array.getElem?_eq_getElem hlt]
      exact congrArg some (getElem!_pos z.cells _ hlt)
    have hzs : z.cells.size = sz := by rw [← Array.length_toList, hz, hzl]
    have hget : z.cells[(0 + len * sz + j) % z.cells.size]? = some u := by
      rw [hzs, Nat.zero_add, Nat.mul_comm, Nat.mul_add_mod, ← Array.getElem?_toList, hz]
      by_cases hjs : j < sz
      · rw [Nat.mod_eq_of_lt hjs]; rwa [List.getElem?_append_left (by omega)] at hu
      · rw [List.getElem?_append_right (by omega), hzl] at hu
        rw [Nat.mod_eq_sub_mod (by omega), Nat.mod_eq_of_lt (by omega)]; exact hu
    rw [cell_of_row _ _ _ _ _ _ hb0]
    exact hidx.trans hget
end Go.Vt
namespace Go.Vt
open Go.RowKit

/-- New memory, from block B on, that no string shares. -/
def Nw (B : Nat) (w : World) (k : Nat) : Prop := B ≤ k ∧ k < w.heap.size ∧ ∃ c e, w.heap[k]? = some (.cells c e (0, 0))
theorem Nw.keep {S : Nat → Prop} {B : Nat} {w w' : World} (h : Fr S w w') (hs : ∀ k, B ≤ k → k < w.heap.size → ¬ S k) : ∀ k, Nw B w k → Nw B w' k ∧ w'.heap[k]? = w.heap[k]? := fun k ⟨h1, h2, c, e, h3⟩ => by
  have := h.block k h2 (hs k h1 h2)
  exact ⟨⟨h1, Nat.lt_of_lt_of_le h2 h.size, c, e, this.trans h3⟩, this⟩
theorem Nw.lower {B B' : Nat} {w : World} (h : B' ≤ B) : ∀ k, Nw B w k → Nw B' w k ∧ w.heap[k]? = w.heap[k]? := fun _ ⟨h1, h2, h3⟩ => ⟨⟨Nat.le_trans h h1, h2, h3⟩, rfl⟩

/-- A copy with room of what reads as c. -/
structure Owned (tab : Nat → List CT) (t : CT) (c c' : C) (v : Value) (B : Nat) (w : World) : Prop where
  ht : Ht tab t c'
  roomy : Roomy c'
  nodes : nodes c' ≤ 200 * nodes c
  rd : Rd (Nw B w) w c' v
def OwnedRow (tab : Nat → List CT) : List CT → List C → List C → List Value → Nat → World → Prop
  | [], [], [], [], _, _ => True
  | t :: ts, c :: cs, c' :: cs', v :: vs, B, w => Owned tab t c c' v B w ∧ OwnedRow tab ts cs cs' vs B w
  | _, _, _, _, _, _ => False
theorem Owned.keep {tab : Nat → List CT} {t : CT} {c c' : C} {v : Value} {B B' : Nat} {w w' : World} {S : Nat → Prop} (h : Owned tab t c c' v B w) (hf : Fr S w w') (hs : ∀ k, B ≤ k → k < w.heap.size → ¬ S k) (hB : B' ≤ B) : Owned tab t c c' v B' w' :=
  ⟨h.ht, h.roomy, h.nodes, Rd.mono (Nw.lower hB) _ _ (Rd.mono (Nw.keep hf hs) _ _ h.rd)⟩
theorem OwnedRow.keep {tab : Nat → List CT} {B B' : Nat} {w w' : World} {S : Nat → Prop} (hf : Fr S w w') (hs : ∀ k, B ≤ k → k < w.heap.size → ¬ S k) (hB : B' ≤ B) : ∀ (ts : List CT) (cs cs' : List C) (vs : List Value), OwnedRow tab ts cs cs' vs B w → OwnedRow tab ts cs cs' vs B' w'
  | [], [], [], [], _ => trivial
  | t :: ts, c :: cs, c' :: cs', v :: vs, h => ⟨h.1.keep hf hs hB, OwnedRow.keep hf hs hB ts cs cs' vs h.2⟩
  | [], [], [], _ :: _, h => h.elim
  | [], [], _ :: _, _, h => by cases h
  | [], _ :: _, _, _, h => by cases h
  | _ :: _, [], _, _, h => by cases h
  | _ :: _, _ :: _, [], _, h => by cases h
  | _ :: _, _ :: _, _ :: _, [], h => by cases h
theorem OwnedRow.out {tab : Nat → List CT} {B : Nat} {w : World} : ∀ (ts : List CT) (cs cs' : List C) (vs : List Value), OwnedRow tab ts cs cs' vs B w → HtRow tab ts cs' ∧ RoomyRow cs' ∧ nodesRow cs' ≤ 200 * nodesRow cs ∧ RdVals (Nw B w) w cs' vs
  | [], [], [], [], _ => ⟨by simp [HtRow], by simp [RoomyRow], by simp [nodesRow], trivial⟩
  | t :: ts, c :: cs, c' :: cs', v :: vs, h => by
    obtain ⟨h1, h2, h3, h4⟩ := OwnedRow.out ts cs cs' vs h.2
    have := h.1.nodes
    exact ⟨by simp only [HtRow]; exact ⟨h.1.ht, h1⟩, by simp only [RoomyRow]; exact ⟨h.1.roomy, h2⟩, by simp only [nodesRow]; omega, h.1.rd, h4⟩
  | [], [], [], _ :: _, h => h.elim
  | [], [], _ :: _, _, h => by cases h
  | [], _ :: _, _, _, h => by cases h
  | _ :: _, [], _, _, h => by cases h
  | _ :: _, _ :: _, [], _, h => by cases h
  | _ :: _, _ :: _, _ :: _, [], h => by cases h
/-- A scalar is its own copy. -/
def scalar : CT → Bool
  | .sl _ => false
  | _ => true
theorem Owned.scalar {tab : Nat → List CT} {t : CT} {c : C} {v : Value} {F : Nat → Prop} {B : Nat} {w w' : World} (hs : scalar t = true) (ht : Ht tab t c) (hr : Rd F w c v) : Owned tab t c c v B w' := by
  cases c with
  | int k n => exact ⟨ht, by simp [Roomy], by omega, by simpa only [Rd] using hr⟩
  | bool b => exact ⟨ht, by simp [Roomy], by omega, by simpa only [Rd] using hr⟩
  | str s => exact ⟨ht, by simp [Roomy], by omega, by simpa only [Rd] using hr⟩
  | sl _ _ _ _ => simp only [Ht] at ht; obtain ⟨e, rfl, _⟩ := ht; simp [Go.Vt.scalar] at hs
theorem scalarRow_rd {tab : Nat → List CT} {F F' : Nat → Prop} {w : World} {b : Nat} : ∀ (ts : List CT) (cs : List C) (o : Nat), ts.all scalar = true → HtRow tab ts cs → RdRow F w b o cs → RdRow F' w b o cs ∧ RoomyRow cs
  | [], [], _, _, _, _ => by simp [RdRow, RoomyRow]
  | t :: ts, c :: cs, o, hs, ht, hr => by
    simp only [List.all_cons, Bool.and_eq_true] at hs
    simp only [HtRow] at ht
    simp only [RdRow] at hr ⊢
    obtain ⟨⟨v, h1, h2⟩, h3⟩ := hr
    obtain ⟨k1, k2⟩ := scalarRow_rd ts cs (o + 1) hs.2 ht.2 h3
    have := Owned.scalar (tab := tab) (B := 0) (w' := w) hs.1 ht.1 h2
    refine ⟨⟨⟨v, h1, ?_⟩, k1⟩, by simp only [RoomyRow]; exact ⟨this.roomy, k2⟩⟩
    cases c with
    | int k n => simpa only [Rd] using h2
    | bool b => simpa only [Rd] using h2
    | str s => simpa only [Rd] using h2
    | sl _ _ _ _ => have := ht.1; simp only [Ht] at this; obtain ⟨e, rfl, _⟩ := this; simp [Go.Vt.scalar] at hs
  | [], _ :: _, _, _, h, _ => by simp [HtRow] at h
  | _ :: _, [], _, _, h, _ => by simp [HtRow] at h
theorem scalarRows_rd {tab : Nat → List CT} {ts : List CT} {F F' : Nat → Prop} {w : World} {b sz : Nat} (hs : ts.all scalar = true) : ∀ (rs : List (List C)) (o : Nat), HtRows tab ts rs → RdRows F w b sz o rs → RdRows F' w b sz o rs ∧ RoomyRows rs
  | [], _, _, _ => by simp [RdRows, RoomyRows]
  | r :: rs, o, ht, hr => by
    simp only [HtRows] at ht
    simp only [RdRows] at hr ⊢
    obtain ⟨h1, h2⟩ := scalarRow_rd (F' := F') ts r o hs ht.1 hr.1.2
    obtain ⟨k1, k2⟩ := scalarRows_rd hs rs (o + sz) ht.2 hr.2
    exact ⟨⟨⟨hr.1.1, h1⟩, k1⟩, by simp only [RoomyRows]; exact ⟨h2, k2⟩⟩

def limL : Nat := 68719476736
/-- f copies a slice. -/
def OwnS (P : Program) (tab : Nat → List CT) (n : Nat) (f : FuncId) (E : Nat) : Prop :=
  ∀ (F : Nat → Prop) (w : World) (v : Value) (c : C), nodes c ≤ n → nodes c ≤ limL → Ht tab (.sl E) c → Rd F w c v → (∀ k, F k → k < w.heap.size) →
    Calls P f #[v] w fun e w' => ∃ v' c', e = .returned v' ∧ Owned tab (.sl E) c c' v' w.heap.size w' ∧ Below w.heap.size w w'
/-- f copies a struct. -/
def OwnA (P : Program) (tab : Nat → List CT) (n : Nat) (f : FuncId) (cts : List CT) : Prop :=
  ∀ (F : Nat → Prop) (w : World) (vs : List Value) (cs : List C), nodesRow cs ≤ n → nodesRow cs ≤ limL → HtRow tab cts cs → RdVals F w cs vs → (∀ k, F k → k < w.heap.size) →
    Calls P f #[.agg vs.toArray] w fun e w' => ∃ vs' cs', e = .returned (.agg vs'.toArray) ∧ OwnedRow tab cts cs cs' vs' w.heap.size w' ∧ Below w.heap.size w w'

theorem Copy.nodes {rows : List (List C)} {len : Nat} {tab : Nat → List CT} {E sz : Nat} (hsz : (tab E).length = sz) (h64 : sz ≤ 64) : Go.Vt.nodes (.sl sz len (len + 2) (rows.take len ++ [(tab E).map (zeroC tab), (tab E).map (zeroC tab)])) ≤ 200 * (1 + nodesRows (rows.take len)) := by
  have h1 : nodesRows [(tab E).map (zeroC tab), (tab E).map (zeroC tab)] = 2 * (1 + sz) := by simp only [nodesRows, zeroRow_nodes, hsz]; omega
  simp only [Go.Vt.nodes, nodesRows_app, h1]
  omega
theorem nodesRows_take_le (n : Nat) (rows : List (List C)) : nodesRows (rows.take n) ≤ nodesRows rows := by
  have := nodesRows_take n rows; omega
/-- A copy of rows of scalars is an own one. -/
theorem copied_ownS {P : Program} {tab : Nat → List CT} {f : FuncId} {E sz : Nat} (n : Nat) (h : CopiedOK P tab f E sz) (hsz : (tab E).length = sz) (h64 : sz ≤ 64) (hs : (tab E).all scalar = true) : OwnS P tab n f E := by
  intro F w v c hn hl ht hr hF
  cases c with
  | int | bool | str => simp [Ht] at ht
  | sl s len cap rows =>
    simp only [Ht] at ht
    obtain ⟨e, he, h1, h2⟩ := ht
    injection he with he
    subst he
    obtain rfl : s = sz := h1.trans hsz
    have hr' := hr
    simp only [Rd] at hr'
    obtain ⟨a, _, hlen, _, _⟩ := hr'
    have hnd := nodesRows_len rows
    simp only [Go.Vt.nodes, limL] at hl
    refine (h F w v len cap rows hr h2 (by omega) hF).mono ?_
    rintro e w' ⟨g, rfl, hc⟩
    have hht : HtRows tab (tab E) (rows.take len ++ [(tab E).map (zeroC tab), (tab E).map (zeroC tab)]) :=
      HtRows.app _ _ (HtRows.take len rows h2) (by simp only [HtRows]; exact ⟨zeroRow_ht tab _, zeroRow_ht tab _, trivial⟩)
    obtain ⟨k1, k2⟩ := scalarRows_rd (F' := Nw w.heap.size w') hs _ 0 hht hc.rd
    obtain ⟨cc, hb, hcs⟩ := hc.blk
    have hlr : (rows.take len ++ [(tab E).map (zeroC tab), (tab E).map (zeroC tab)]).length = len + 2 := by simp [Nat.min_eq_left hlen]
    refine ⟨_, .sl s len (len + 2) (rows.take len ++ [(tab E).map (zeroC tab), (tab E).map (zeroC tab)]), rfl, ⟨?_, ?_, ?_, ?_⟩, hc.bel⟩
    · simp only [Ht]; exact ⟨E, rfl, h1, hht⟩
    · simp only [Roomy]; exact ⟨hlr, k2⟩
    · have := Copy.nodes (rows := rows) (len := len) (tab := tab) (E := E) hsz h64
      have := nodesRows_take_le len rows
      simp only [Go.Vt.nodes] at *; omega
    · simp only [Rd]
      exact ⟨_, rfl, by omega, by omega, .inr ⟨g, 0, rfl, ⟨hc.ge, (Array.getElem?_eq_some_iff.1 hb).1, cc, E, hb⟩, k1⟩⟩

/-- Where the loop stands that copies the rows one by one: i of them are own. -/
structure OwnAt (tab : Nat → List CT) (E sz len : Nat) (rows : List (List C)) (F : Nat → Prop) (w : World) (g i : Nat) (wr : World) : Prop where
  bel : Below w.heap.size w wr
  ge : w.heap.size ≤ g
  blk : ∃ c, wr.heap[g]? = some (.cells c E (0, 0)) ∧ c.size = (len + 2) * sz
  own : ∃ rows1, rows1.length = i ∧ RdRows (Nw (g + 1) wr) wr g sz 0 rows1 ∧ HtRows tab (tab E) rows1 ∧ RoomyRows rows1 ∧ nodesRows rows1 ≤ 200 * nodesRows (rows.take i)
  rest : RdRows F wr g sz (i * sz) ((rows.take len).drop i ++ [(tab E).map (zeroC tab), (tab E).map (zeroC tab)])
theorem OwnAt.start {tab : Nat → List CT} {E sz len : Nat} {rows : List (List C)} {F : Nat → Prop} {w w' : World} {g : Nat} (h : Copy tab E sz len rows F w w' g) : OwnAt tab E sz len rows F w g 0 w' :=
  ⟨h.bel, h.ge, h.blk, ⟨[], rfl, by simp [RdRows], by simp [HtRows], by simp [RoomyRows], by simp [nodesRows]⟩, by simpa using h.rd⟩
/-- The row that comes next: its cells. -/
theorem OwnAt.row {tab : Nat → List CT} {E sz len : Nat} {rows : List (List C)} {F : Nat → Prop} {w wr : World} {g i : Nat} (h : OwnAt tab E sz len rows F w g i wr) (hlen : len ≤ rows.length) (hi : i < len) (hht : HtRows tab (tab E) rows) :
    ∃ r vs, rows[i]? = some r ∧ HtRow tab (tab E) r ∧ RdVals F wr r vs ∧ (∀ j u, vs[j]? = some u → wr.cell? ⟨g, i * sz + j, none⟩ = some u) ∧ nodesRow r ≤ nodesRows rows := by
  have hlt : i < rows.length := by omega
  have hd : (rows.take len).drop i = rows[i] :: (rows.take len).drop (i + 1) := by
    rw [List.drop_eq_getElem_cons (by simp; omega)]; simp
  have hr := h.rest
  rw [hd] at hr
  simp only [List.cons_append, RdRows] at hr
  obtain ⟨vs, k1, k2⟩ := RdRow.vals _ _ hr.1.2
  have ht := HtRows.drop i rows hht
  rw [List.drop_eq_getElem_cons hlt] at ht
  simp only [HtRows] at ht
  refine ⟨rows[i], vs, List.getElem?_eq_getElem hlt, ht.1, k1, k2, ?_⟩
  have := nodesRows_take i rows
  rw [List.drop_eq_getElem_cons hlt] at this
  simp only [nodesRows] at this
  omega
/-- The row's copy is stored back. -/
theorem OwnAt.next {tab : Nat → List CT} {E sz len : Nat} {rows : List (List C)} {F : Nat → Prop} {w wr w2 : World} {g i : Nat} {r r' : List C} {vs' : List Value} (h : OwnAt tab E sz len rows F w g i wr) (hsz : (tab E).length = sz) (hlen : len ≤ rows.length) (hi : i < len) (hr : rows[i]? = some r)
    (hF : ∀ k, F k → k < w.heap.size) (ho : OwnedRow tab (tab E) r r' vs' wr.heap.size w2) (hb : Below wr.heap.size wr w2) : OwnAt tab E sz len rows F w g (i + 1) (w2.setCells g (i * sz) vs') := by
  obtain ⟨rows1, l1, k1, k2, k3, k4⟩ := h.own
  obtain ⟨o1, o2, o3, o4⟩ := OwnedRow.out _ _ _ _ ho
  obtain ⟨c, hb1, hb2⟩ := h.blk
  have hgl : g < wr.heap.size := (Array.getElem?_eq_some_iff.1 hb1).1
  have hg2 : w2.heap[g]? = some (.cells c E (0, 0)) := (hb.block g hgl).trans hb1
  obtain ⟨c', hc1, hc2⟩ := setCells_blk g vs' (i * sz) w2 c E (0, 0) hg2
  have hfr := setCells_fr g vs' (i * sz) w2
  have hlr : r'.length = sz := (HtRow.length _ _ o1).trans hsz
  have hlv : vs'.length = sz := (RdVals.length _ _ o4).trans hlr
  have hlt : i < rows.length := by omega
  have hre : rows[i] = r := by rw [List.getElem?_eq_getElem hlt] at hr; injection hr
  have hd : (rows.take len).drop i = r :: (rows.take len).drop (i + 1) := by
    rw [List.drop_eq_getElem_cons (by simp; omega)]; simp [hre]
  have hmul : (i + 1) * sz ≤ (len + 2) * sz := Nat.mul_le_mul_right _ (by omega)
  rw [Nat.succ_mul] at hmul
  -- cells of g outside of the row stay
  have hout : ∀ o, (o < i * sz ∨ i * sz + sz ≤ o) → (w2.setCells g (i * sz) vs').cell? ⟨g, o, none⟩ = wr.cell? ⟨g, o, none⟩ := fun o ho' => by
    rw [World.cell?_setCells_out g vs' (i * sz) w2 ⟨g, o, none⟩ (fun _ _ => by rw [hlv]; exact ho')]
    exact World.cell?_of_block (w := wr) (hb.block g hgl)
  have hrows : ∀ (G G' : Nat → Prop) (hGG : ∀ k, G k → G' k ∧ (w2.setCells g (i * sz) vs').heap[k]? = wr.heap[k]?) (rs : List (List C)) (o : Nat), (∀ q, o ≤ q → q < o + rs.length * sz → (q < i * sz ∨ i * sz + sz ≤ q)) → RdRows G wr g sz o rs → RdRows G' (w2.setCells g (i * sz) vs') g sz o rs := by
    intro G G' hGG rs o hq hrs
    obtain ⟨fl, f1, f2, f3⟩ := hrs.flat
    refine RdFlat.rows _ fl o (RdFlat.mono hGG _ _ f1) (RdRows.lens _ _ hrs) (fun j u hu => ?_)
    have hj := (List.getElem?_eq_some_iff.1 hu).1
    rw [hout _ (hq _ (by omega) (by omega))]
    exact f3 j u hu
  have hnw : ∀ k, Nw (g + 1) wr k → Nw (g + 1) (w2.setCells g (i * sz) vs') k ∧ (w2.setCells g (i * sz) vs').heap[k]? = wr.heap[k]? := fun k hk => by
    have hkl := hk.2.1
    have h1 := Nw.keep (Fr.of_below hb (fun _ => False)) (fun _ _ _ => by simp) k hk
    have h2 := Nw.keep hfr (fun k' hk' _ e => by omega) k h1.1
    exact ⟨h2.1, h2.2.trans h1.2⟩
  refine ⟨?_, h.ge, ⟨c', hc1, hc2.trans hb2⟩, ⟨rows1 ++ [r'], by simp [l1], ?_, HtRows.app _ _ k2 (by simp only [HtRows]; exact ⟨o1, trivial⟩), RoomyRows.app _ _ k3 (by simp only [RoomyRows]; exact ⟨o2, trivial⟩), ?_⟩, ?_⟩
  · have h1 := h.bel.trans (hb.mono h.bel.size)
    exact h1.trans ⟨hfr.os, hfr.tape, hfr.output, hfr.size, fun k hk => hfr.block k (Nat.lt_of_lt_of_le hk h1.size) (by have := h.ge; omega)⟩
  · rw [RdRows.app]
    refine ⟨hrows _ _ hnw rows1 0 (fun q _ hq => .inl (by rw [l1] at hq; omega)) k1, ?_⟩
    have hvr : RdVals (Nw (g + 1) (w2.setCells g (i * sz) vs')) (w2.setCells g (i * sz) vs') r' vs' := by
      refine RdVals.mono (fun k hk => ?_) _ _ o4
      have h2 := Nw.keep (B := wr.heap.size) hfr (fun k' hk' _ e => by omega) k hk
      exact ⟨(Nw.lower (by omega) k h2.1).1, h2.2⟩
    have hcells : ∀ j u, vs'[j]? = some u → (w2.setCells g (i * sz) vs').cell? ⟨g, i * sz + j, none⟩ = some u := fun j u hu => by
      have hj := (List.getElem?_eq_some_iff.1 hu).1
      rw [World.cell?_setCells_in g vs' (i * sz) w2 (fun j' hj' => by
        rw [cell_of_row _ _ _ _ _ _ hg2, Array.getElem?_eq_getElem (by omega)]; rfl) j hj]
      rw [List.getElem?_eq_getElem hj] at hu; exact hu
    simp only [RdRows, l1, Nat.zero_add, and_true]
    exact ⟨hlr, RdVals.row r' vs' (i * sz) hvr hcells⟩
  · have ht : nodesRows (rows.take (i + 1)) = nodesRows (rows.take i) + (1 + nodesRow r) := by
      rw [List.take_succ_eq_append_getElem hlt, nodesRows_app, hre]; simp [nodesRows]
    rw [nodesRows_app, ht]; simp only [nodesRows]; omega
  · have hr0 := h.rest
    rw [hd] at hr0
    simp only [List.cons_append, RdRows] at hr0
    rw [Nat.succ_mul]
    refine hrows F F (fun k hk => ⟨hk, ?_⟩) _ _ (fun q hq _ => .inr hq) hr0.2
    have := hF k hk
    have hge := h.ge
    rw [setCells_far g k (by omega)]
    exact hb.block k (by have := h.bel.size; omega)
theorem zeroVals_any (tab : Nat → List CT) {F F' : Nat → Prop} {w : World} : ∀ (ts : List CT) (vs : List Value), RdVals F w (ts.map (zeroC tab)) vs → RdVals F' w (ts.map (zeroC tab)) vs
  | [], [], _ => trivial
  | [], _ :: _, h => h.elim
  | _ :: _, [], h => h.elim
  | t :: ts, v :: vs, h => by
    refine ⟨?_, zeroVals_any tab ts vs h.2⟩
    have h1 := h.1
    cases t with
    | sl e => simp only [zeroC, Rd] at h1 ⊢; obtain ⟨a, rfl, h2, h3, _⟩ := h1; exact ⟨a, rfl, h2, h3, .inl (by simp)⟩
    | int k => simpa only [zeroC, Rd] using h1
    | bool => simpa only [zeroC, Rd] using h1
    | str => simpa only [zeroC, Rd] using h1
/-- All rows are own. -/
theorem OwnAt.done {tab : Nat → List CT} {E sz len cap : Nat} {rows : List (List C)} {F : Nat → Prop} {w wr : World} {g : Nat} (h : OwnAt tab E sz len rows F w g len wr) (hsz : (tab E).length = sz) (h64 : sz ≤ 64) (hlen : len ≤ rows.length) :
    ∃ c', Owned tab (.sl E) (.sl sz len cap rows) c' (.slice (some ⟨g, 0, none⟩) len (len + 2)) w.heap.size wr := by
  obtain ⟨rows1, l1, k1, k2, k3, k4⟩ := h.own
  obtain ⟨c, hb1, hb2⟩ := h.blk
  have hgl : g < wr.heap.size := (Array.getElem?_eq_some_iff.1 hb1).1
  have hz : nodesRows [(tab E).map (zeroC tab), (tab E).map (zeroC tab)] = 2 * (1 + sz) := by simp only [nodesRows, zeroRow_nodes, hsz]; omega
  have hrest := h.rest
  rw [List.drop_eq_nil_of_le (by rw [List.length_take]; omega), List.nil_append] at hrest
  refine ⟨.sl sz len (len + 2) (rows1 ++ [(tab E).map (zeroC tab), (tab E).map (zeroC tab)]), ?_, ?_, ?_, ?_⟩
  · simp only [Ht]; exact ⟨E, rfl, hsz.symm, HtRows.app _ _ k2 (by simp only [HtRows]; exact ⟨zeroRow_ht tab _, zeroRow_ht tab _, trivial⟩)⟩
  · simp only [Roomy]; exact ⟨by simp [l1], RoomyRows.app _ _ k3 (by simp only [RoomyRows]; exact ⟨zeroRow_roomy tab _, zeroRow_roomy tab _, trivial⟩)⟩
  · have := nodesRows_take_le len rows
    simp only [Go.Vt.nodes, nodesRows_app, hz]; omega
  · simp only [Rd]
    refine ⟨_, rfl, by simp [l1], by simp [l1], .inr ⟨g, 0, rfl, ⟨h.ge, hgl, c, E, hb1⟩, ?_⟩⟩
    rw [RdRows.app]
    refine ⟨Rd.monoRows (F := Nw (g + 1) wr) (fun k hk => Nw.lower (by have := h.ge; omega) k hk) g sz rfl _ _ k1, ?_⟩
    rw [l1, Nat.zero_add]
    obtain ⟨fl, f1, f2, f3⟩ := hrest.flat
    simp only [RdFlat] at f1
    obtain ⟨v1, v2, rfl, m1, v3, v4, rfl, m2, rfl⟩ := f1
    exact RdFlat.rows _ _ _ ⟨v1, _, rfl, zeroVals_any tab _ _ m1, v3, [], rfl, zeroVals_any tab _ _ m2, rfl⟩ (by simp [hsz]) f3
theorem HtRow.cons {tab : Nat → List CT} {t : CT} {ts : List CT} {cs : List C} (h : HtRow tab (t :: ts) cs) : ∃ c cs', cs = c :: cs' ∧ Ht tab t c ∧ HtRow tab ts cs' := by
  cases cs with
  | nil => simp [HtRow] at h
  | cons c cs => simp only [HtRow] at h; exact ⟨c, cs, rfl, h.1, h.2⟩
theorem HtRow.nil {tab : Nat → List CT} {cs : List C} (h : HtRow tab [] cs) : cs = [] := by
  cases cs with
  | nil => rfl
  | cons c cs => simp [HtRow] at h
theorem RdVals.cons {F : Nat → Prop} {w : World} {c : C} {cs : List C} {vs : List Value} (h : RdVals F w (c :: cs) vs) : ∃ v vs', vs = v :: vs' ∧ Rd F w c v ∧ RdVals F w cs vs' := by
  cases vs with
  | nil => exact h.elim
  | cons v vs => exact ⟨v, vs, rfl, h.1, h.2⟩
theorem RdVals.nil {F : Nat → Prop} {w : World} {vs : List Value} (h : RdVals F w [] vs) : vs = [] := by
  cases vs with
  | nil => rfl
  | cons v vs => exact h.elim
theorem OwnedRow.len {tab : Nat → List CT} {B : Nat} {w : World} {ts : List CT} {cs cs' : List C} {vs : List Value} (h : OwnedRow tab ts cs cs' vs B w) : vs.length = ts.length := by
  obtain ⟨h1, _, _, h4⟩ := OwnedRow.out _ _ _ _ h
  exact (RdVals.length _ _ h4).trans (HtRow.length _ _ h1)
theorem len_cons {α : Type} {n : Nat} {l : List α} (h : l.length = n + 1) : ∃ a t, l = a :: t ∧ t.length = n := by
  cases l with
  | nil => simp at h
  | cons a t => exact ⟨a, t, rfl, by simpa using h⟩
theorem len_nil {α : Type} {l : List α} (h : l.length = 0) : l = [] := List.length_eq_zero_iff.1 h
theorem OwnedRow.app {tab : Nat → List CT} {B : Nat} {w : World} : ∀ (t1 t2 : List CT) (c1 c2 d1 d2 : List C) (v1 v2 : List Value), OwnedRow tab t1 c1 d1 v1 B w → OwnedRow tab t2 c2 d2 v2 B w → OwnedRow tab (t1 ++ t2) (c1 ++ c2) (d1 ++ d2) (v1 ++ v2) B w
  | [], _, [], _, [], _, [], _, _, h' => h'
  | t :: ts, t2, c :: cs, c2, d :: ds, d2, v :: vs, v2, h, h' => ⟨h.1, OwnedRow.app ts t2 cs c2 ds d2 vs v2 h.2 h'⟩
  | [], _, [], _, [], _, _ :: _, _, h, _ => h.elim
  | [], _, [], _, _ :: _, _, _, _, h, _ => by cases h
  | [], _, _ :: _, _, _, _, _, _, h, _ => by cases h
  | _ :: _, _, [], _, _, _, _, _, h, _ => by cases h
  | _ :: _, _, _ :: _, _, [], _, _, _, h, _ => by cases h
  | _ :: _, _, _ :: _, _, _ :: _, _, [], _, h, _ => by cases h
theorem OwnS.le {P : Program} {tab : Nat → List CT} {n m : Nat} {f : FuncId} {E : Nat} (h : OwnS P tab n f E) (hm : m ≤ n) : OwnS P tab m f E := fun F w v c hn => h F w v c (Nat.le_trans hn hm)
theorem OwnA.le {P : Program} {tab : Nat → List CT} {n m : Nat} {f : FuncId} {cts : List CT} (h : OwnA P tab n f cts) (hm : m ≤ n) : OwnA P tab m f cts := fun F w vs cs hn => h F w vs cs (Nat.le_trans hn hm)
theorem rd_fr {F : Nat → Prop} {w W : World} {S : Nat → Prop} (hF : ∀ k, F k → k < w.heap.size) (hf : Fr S w W) (hs : ∀ k, k < w.heap.size → ¬ S k) : ∀ k, F k → F k ∧ W.heap[k]? = w.heap[k]? := fun k hk => ⟨hk, hf.block k (hF k hk) (hs k (hF k hk))⟩
theorem ht_sl {tab : Nat → List CT} {E : Nat} {c : C} (h : Ht tab (.sl E) c) : ∃ sz len cap rows, c = .sl sz len cap rows := by
  cases c with
  | sl a b d e => exact ⟨a, b, d, e, rfl⟩
  | _ => simp [Ht] at h
theorem alloc_size' (w : World) (o : Obj) : (w.alloc o).heap.size = w.heap.size + 1 := by show (w.heap.push _).size = _; rw [Array.size_push]
theorem Owned.slf {tab : Nat → List CT} {E : Nat} {c c' : C} {v : Value} {B : Nat} {w : World} (h : Owned tab (.sl E) c c' v B w) : ∃ a l k, v = .slice a l k := by
  have h1 := h.ht
  cases c' with
  | sl sz len cap rows => have h2 := h.rd; simp only [Rd] at h2; obtain ⟨a, rfl, _⟩ := h2; exact ⟨_, _, _, rfl⟩
  | _ => simp [Ht] at h1
theorem Owned.intf {tab : Nat → List CT} {k : IntKind} {c c' : C} {v : Value} {B : Nat} {w : World} (h : Owned tab (.int k) c c' v B w) : ∃ n, v = .int k n := by
  have h1 := h.ht
  cases c' with
  | int k' n => have h2 := h.rd; simp only [Rd] at h2; simp only [Ht] at h1; obtain ⟨h1, _⟩ := h1; injection h1 with h1; subst h1; subst h2; exact ⟨_, rfl⟩
  | _ => simp [Ht] at h1
theorem Owned.strf {tab : Nat → List CT} {c c' : C} {v : Value} {B : Nat} {w : World} (h : Owned tab .str c c' v B w) : ∃ s, v = .string s := by
  have h1 := h.ht
  cases c' with
  | str s => have h2 := h.rd; simp only [Rd] at h2; subst h2; exact ⟨_, rfl⟩
  | _ => simp [Ht] at h1
theorem Owned.boolf {tab : Nat → List CT} {c c' : C} {v : Value} {B : Nat} {w : World} (h : Owned tab .bool c c' v B w) : ∃ s, v = .bool s := by
  have h1 := h.ht
  cases c' with
  | bool s => have h2 := h.rd; simp only [Rd] at h2; subst h2; exact ⟨_, rfl⟩
  | _ => simp [Ht] at h1
theorem OwnedRow.cons {tab : Nat → List CT} {t : CT} {ts : List CT} {c : C} {cs cs' : List C} {v : Value} {vs : List Value} {B : Nat} {w : World} (h : OwnedRow tab (t :: ts) (c :: cs) cs' (v :: vs) B w) : ∃ d ds, cs' = d :: ds ∧ Owned tab t c d v B w ∧ OwnedRow tab ts cs ds vs B w := by
  cases cs' with
  | nil => exact h.elim
  | cons d ds => exact ⟨d, ds, rfl, h.1, h.2⟩
theorem OwnedRow.nil {tab : Nat → List CT} {cs' : List C} {B : Nat} {w : World} (h : OwnedRow tab [] [] cs' [] B w) : cs' = [] := by
  cases cs' with
  | nil => rfl
  | cons d ds => exact h.elim
theorem Ht.slf {tab : Nat → List CT} {E : Nat} {c : C} {v : Value} {F : Nat → Prop} {w : World} (h1 : Ht tab (.sl E) c) (h2 : Rd F w c v) : ∃ a l k, v = .slice a l k := by
  cases c with
  | sl sz len cap rows => simp only [Rd] at h2; obtain ⟨a, rfl, _⟩ := h2; exact ⟨_, _, _, rfl⟩
  | _ => simp [Ht] at h1
theorem Ht.intf {tab : Nat → List CT} {k : IntKind} {c : C} {v : Value} {F : Nat → Prop} {w : World} (h1 : Ht tab (.int k) c) (h2 : Rd F w c v) : ∃ n, v = .int k n := by
  cases c with
  | int k' n => simp only [Rd] at h2; simp only [Ht] at h1; obtain ⟨h1, _⟩ := h1; injection h1 with h1; subst h1; subst h2; exact ⟨_, rfl⟩
  | _ => simp [Ht] at h1
theorem Ht.strf {tab : Nat → List CT} {c : C} {v : Value} {F : Nat → Prop} {w : World} (h1 : Ht tab .str c) (h2 : Rd F w c v) : ∃ s, v = .string s := by
  cases c with
  | str s => simp only [Rd] at h2; subst h2; exact ⟨_, rfl⟩
  | _ => simp [Ht] at h1
theorem Ht.boolf {tab : Nat → List CT} {c : C} {v : Value} {F : Nat → Prop} {w : World} (h1 : Ht tab .bool c) (h2 : Rd F w c v) : ∃ s, v = .bool s := by
  cases c with
  | bool s => simp only [Rd] at h2; subst h2; exact ⟨_, rfl⟩
  | _ => simp [Ht] at h1
theorem OwnedRow.cons2 {tab : Nat → List CT} {t : CT} {ts : List CT} {cs cs' : List C} {v : Value} {vs : List Value} {B : Nat} {w : World} (h : OwnedRow tab (t :: ts) cs cs' (v :: vs) B w) : ∃ c cs0 d ds, cs = c :: cs0 ∧ cs' = d :: ds ∧ Owned tab t c d v B w ∧ OwnedRow tab ts cs0 ds vs B w := by
  cases cs with
  | nil => cases h
  | cons c cs =>
  cases cs' with
  | nil => cases h
  | cons d ds => exact ⟨c, cs, d, ds, rfl, rfl, h.1, h.2⟩
end Go.Vt
