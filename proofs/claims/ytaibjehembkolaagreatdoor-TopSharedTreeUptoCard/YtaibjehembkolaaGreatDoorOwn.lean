/- Copies of data: the zero rows, rows flat. -/
import Derived.Test.YtaibjehembkolaaGreatDoorAll
import Derived.Laws.MakeOwn
import Derived.Lib.JoinLaws
import Derived.Laws.NewBlocks
namespace Go.Vt
open Go.RowKit

/-! ### zero values -/
def zeroC (tab : Nat → List CT) : CT → C
  | .int k => .int k 0
  | .bool => .bool false
  | .str => .str ByteArray.empty
  | .sl e => .sl (tab e).length 0 0 []
def zeroV : CT → Value
  | .int k => .int k 0
  | .bool => .bool false
  | .str => .string ByteArray.empty
  | .sl _ => .slice none 0 0
theorem zeroC_ht (tab : Nat → List CT) : ∀ t, Ht tab t (zeroC tab t)
  | .int k => by simp only [zeroC, Ht, true_and]; cases k <;> rfl
  | .bool => by simp [zeroC, Ht]
  | .str => by simp only [zeroC, Ht, true_and]; exact Nat.zero_le _
  | .sl e => by simp only [zeroC, Ht]; exact ⟨e, rfl, rfl, by simp [HtRows]⟩
theorem zeroRow_ht (tab : Nat → List CT) : ∀ ts : List CT, HtRow tab ts (ts.map (zeroC tab))
  | [] => by simp [HtRow]
  | t :: ts => by simp only [List.map_cons, HtRow]; exact ⟨zeroC_ht tab t, zeroRow_ht tab ts⟩
theorem zeroC_rd (tab : Nat → List CT) (F : Nat → Prop) (w : World) : ∀ t, Rd F w (zeroC tab t) (zeroV t)
  | .int _ | .bool | .str => by simp [zeroC, zeroV, Rd]
  | .sl _ => by simp only [zeroC, zeroV, Rd]; exact ⟨none, rfl, by simp, by simp, .inl (by simp)⟩
theorem zeroRow_rd (tab : Nat → List CT) (F : Nat → Prop) (w : World) : ∀ ts : List CT, RdVals F w (ts.map (zeroC tab)) (ts.map zeroV)
  | [] => trivial
  | t :: ts => ⟨zeroC_rd tab F w t, zeroRow_rd tab F w ts⟩
theorem zeroC_nodes (tab : Nat → List CT) (t : CT) : nodes (zeroC tab t) = 1 := by cases t <;> simp [zeroC, nodes, nodesRows]
theorem zeroRow_nodes (tab : Nat → List CT) : ∀ ts : List CT, nodesRow (ts.map (zeroC tab)) = ts.length
  | [] => rfl
  | t :: ts => by simp only [List.map_cons, nodesRow, zeroC_nodes, zeroRow_nodes tab ts, List.length_cons]; omega
theorem zeroC_roomy (tab : Nat → List CT) (t : CT) : Roomy (zeroC tab t) := by cases t <;> simp [zeroC, Roomy, RoomyRows]
theorem zeroRow_roomy (tab : Nat → List CT) : ∀ ts : List CT, RoomyRow (ts.map (zeroC tab))
  | [] => by simp [RoomyRow]
  | t :: ts => by simp only [List.map_cons, RoomyRow]; exact ⟨zeroC_roomy tab t, zeroRow_roomy tab ts⟩

/-! ### rows, flat -/
theorem RdVals.length {F : Nat → Prop} {w : World} : ∀ (cs : List C) (vs : List Value), RdVals F w cs vs → vs.length = cs.length
  | [], [], _ => rfl
  | c :: cs, v :: vs, h => by simp [RdVals.length cs vs h.2]
  | [], _ :: _, h => h.elim
  | _ :: _, [], h => h.elim
theorem RdRow.vals {F : Nat → Prop} {w : World} {b : Nat} : ∀ (cs : List C) (o : Nat), RdRow F w b o cs → ∃ vs, RdVals F w cs vs ∧ ∀ j u, vs[j]? = some u → w.cell? ⟨b, o + j, none⟩ = some u
  | [], _, _ => ⟨[], trivial, by simp⟩
  | c :: cs, o, h => by
    simp only [RdRow] at h
    obtain ⟨⟨v, h1, h2⟩, h3⟩ := h
    obtain ⟨vs, k1, k2⟩ := RdRow.vals cs (o + 1) h3
    refine ⟨v :: vs, ⟨h2, k1⟩, fun j u hu => ?_⟩
    cases j with
    | zero => simp at hu; subst hu; exact h1
    | succ j => rw [show o + (j + 1) = o + 1 + j from by omega]; exact k2 j u (by simpa using hu)
theorem RdVals.row {F : Nat → Prop} {w : World} {b : Nat} : ∀ (cs : List C) (vs : List Value) (o : Nat), RdVals F w cs vs → (∀ j u, vs[j]? = some u → w.cell? ⟨b, o + j, none⟩ = some u) → RdRow F w b o cs
  | [], _, _, _, _ => by simp [RdRow]
  | c :: cs, [], _, h, _ => h.elim
  | c :: cs, v :: vs, o, h, hc => by
    simp only [RdRow]
    exact ⟨⟨v, by simpa using hc 0 v rfl, h.1⟩, RdVals.row cs vs (o + 1) h.2 (fun j u hu => by rw [show o + 1 + j = o + (j + 1) from by omega]; exact hc (j + 1) u (by simpa using hu))⟩
/-- The cells of rows, one behind the other. -/
def RdFlat (F : Nat → Prop) (w : World) : List (List C) → List Value → Prop
  | [], vs => vs = []
  | r :: rs, vs => ∃ v1 v2, vs = v1 ++ v2 ∧ RdVals F w r v1 ∧ RdFlat F w rs v2
theorem RdFlat.mono {F F' : Nat → Prop} {w w' : World} (h : ∀ b, F b → F' b ∧ w'.heap[b]? = w.heap[b]?) : ∀ (rs : List (List C)) (vs : List Value), RdFlat F w rs vs → RdFlat F' w' rs vs
  | [], _, hr => hr
  | r :: rs, _, ⟨v1, v2, e, h1, h2⟩ => ⟨v1, v2, e, RdVals.mono h r v1 h1, RdFlat.mono h rs v2 h2⟩
theorem RdRows.flat {F : Nat → Prop} {w : World} {b sz : Nat} : ∀ (rs : List (List C)) (o : Nat), RdRows F w b sz o rs → ∃ vs, RdFlat F w rs vs ∧ vs.length = rs.length * sz ∧ (∀ j u, vs[j]? = some u → w.cell? ⟨b, o + j, none⟩ = some u)
  | [], _, _ => ⟨[], rfl, by simp, by simp⟩
  | r :: rs, o, h => by
    simp only [RdRows] at h
    obtain ⟨v1, k1, k2⟩ := RdRow.vals r o h.1.2
    obtain ⟨v2, m1, m2, m3⟩ := RdRows.flat rs (o + sz) h.2
    have hl : v1.length = sz := (RdVals.length r v1 k1).trans h.1.1
    refine ⟨v1 ++ v2, ⟨v1, v2, rfl, k1, m1⟩, by simp [hl, m2, Nat.succ_mul]; omega, fun j u hu => ?_⟩
    by_cases hj : j < sz
    · rw [List.getElem?_append_left (by omega)] at hu; exact k2 j u hu
    · rw [List.getElem?_append_right (by omega), hl] at hu
      have := m3 (j - sz) u hu
      rwa [show o + sz + (j - sz) = o + j from by omega] at this
theorem RdFlat.rows {F : Nat → Prop} {w : World} {b sz : Nat} : ∀ (rs : List (List C)) (vs : List Value) (o : Nat), RdFlat F w rs vs → (∀ r ∈ rs, r.length = sz) → (∀ j u, vs[j]? = some u → w.cell? ⟨b, o + j, none⟩ = some u) → RdRows F w b sz o rs
  | [], _, _, _, _, _ => by simp [RdRows]
  | r :: rs, vs, o, ⟨v1, v2, e, h1, h2⟩, hl, hc => by
    subst e
    have hl1 : v1.length = sz := (RdVals.length r v1 h1).trans (hl r (by simp))
    simp only [RdRows]
    refine ⟨⟨hl r (by simp), RdVals.row r v1 o h1 (fun j u hu => hc j u ?_)⟩, RdFlat.rows rs v2 (o + sz) h2 (fun x hx => hl x (by simp [hx])) (fun j u hu => ?_)⟩
    · have hj : j < v1.length := (List.getElem?_eq_some_iff.1 hu).1
      rw [List.getElem?_append_left hj]; exact hu
    · rw [show o + sz + j = o + (sz + j) from by omega]
      refine hc (sz + j) u ?_
      rw [List.getElem?_append_right (by omega), hl1, show sz + j - sz = j from by omega]; exact hu
theorem RdRows.app {F : Nat → Prop} {w : World} {b sz : Nat} : ∀ (a c : List (List C)) (o : Nat), RdRows F w b sz o (a ++ c) ↔ RdRows F w b sz o a ∧ RdRows F w b sz (o + a.length * sz) c
  | [], c, o => by simp [RdRows]
  | r :: rs, c, o => by
    simp only [List.cons_append, RdRows, RdRows.app rs c (o + sz), List.length_cons]
    rw [show o + (rs.length + 1) * sz = o + sz + rs.length * sz from by rw [Nat.succ_mul]; omega]
    constructor
    · rintro ⟨h1, h2, h3⟩; exact ⟨⟨h1, h2⟩, h3⟩
    · rintro ⟨⟨h1, h2⟩, h3⟩; exact ⟨h1, h2, h3⟩
theorem Rd.oneCell {F : Nat → Prop} {w : World} : ∀ (c : C) (v : Value), Rd F w c v → v.oneCell' = true
  | .int .., v, h => by simp only [Rd] at h; subst h; rfl
  | .bool .., v, h => by simp only [Rd] at h; subst h; rfl
  | .str .., v, h => by simp only [Rd] at h; subst h; rfl
  | .sl .., v, h => by simp only [Rd] at h; obtain ⟨a, rfl, _⟩ := h; rfl
theorem RdVals.oneCell {F : Nat → Prop} {w : World} : ∀ (cs : List C) (vs : List Value), RdVals F w cs vs → ∀ u ∈ vs, u.oneCell' = true
  | [], [], _ => by simp
  | c :: cs, v :: vs, h => by
    intro u hu
    rcases List.mem_cons.1 hu with rfl | hu
    · exact Rd.oneCell c _ h.1
    · exact RdVals.oneCell cs vs h.2 u hu
  | [], _ :: _, h => h.elim
  | _ :: _, [], h => h.elim
theorem RdFlat.oneCell {F : Nat → Prop} {w : World} : ∀ (rs : List (List C)) (vs : List Value), RdFlat F w rs vs → ∀ u ∈ vs, u.oneCell' = true
  | [], _, h => by simp only [RdFlat] at h; subst h; simp
  | r :: rs, vs, ⟨v1, v2, e, h1, h2⟩ => by
    subst e
    intro u hu
    rcases List.mem_append.1 hu with hu | hu
    · exact RdVals.oneCell r v1 h1 u hu
    · exact RdFlat.oneCell rs v2 h2 u hu
theorem RdFlat.app {F : Nat → Prop} {w : World} : ∀ (a c : List (List C)) (v1 v2 : List Value), RdFlat F w a v1 → RdFlat F w c v2 → RdFlat F w (a ++ c) (v1 ++ v2)
  | [], _, _, _, h, h' => by simp only [RdFlat] at h; subst h; simpa using h'
  | r :: rs, c, _, v2, ⟨x, y, e, h1, h2⟩, h' => ⟨x, y ++ v2, by rw [e, List.append_assoc], h1, RdFlat.app rs c y v2 h2 h'⟩
theorem RdRows.take {F : Nat → Prop} {w : World} {b sz o : Nat} {rs : List (List C)} (n : Nat) (h : RdRows F w b sz o rs) : RdRows F w b sz o (rs.take n) := by
  rw [← List.take_append_drop n rs] at h
  exact ((RdRows.app _ _ o).1 h).1
theorem RdRows.drop {F : Nat → Prop} {w : World} {b sz o : Nat} {rs : List (List C)} (n : Nat) (hn : n ≤ rs.length) (h : RdRows F w b sz o rs) : RdRows F w b sz (o + n * sz) (rs.drop n) := by
  rw [← List.take_append_drop n rs] at h
  have := ((RdRows.app _ _ o).1 h).2
  rwa [List.length_take, Nat.min_eq_left hn] at this
theorem RdRows.lens {F : Nat → Prop} {w : World} {b sz : Nat} : ∀ (rs : List (List C)) (o : Nat), RdRows F w b sz o rs → ∀ r ∈ rs, r.length = sz
  | [], _, _ => by simp
  | x :: xs, o, h => by
    simp only [RdRows] at h
    intro r hr
    rcases List.mem_cons.1 hr with rfl | hr
    · exact h.1.1
    · exact RdRows.lens xs (o + sz) h.2 r hr
theorem HtRows.lens {tab : Nat → List CT} {ts : List CT} {n : Nat} (hn : ts.length = n) : ∀ (rows : List (List C)), HtRows tab ts rows → ∀ r ∈ rows, r.length = n
  | [], _ => by simp
  | x :: xs, h => by
    simp only [HtRows] at h
    intro r hr
    rcases List.mem_cons.1 hr with rfl | hr
    · exact (HtRow.length ts _ h.1).trans hn
    · exact HtRows.lens hn xs h.2 r hr
theorem HtRows.take {tab : Nat → List CT} {ts : List CT} : ∀ (n : Nat) (rows : List (List C)), HtRows tab ts rows → HtRows tab ts (rows.take n)
  | 0, _, _ => by simp [HtRows]
  | n + 1, [], _ => by simp [HtRows]
  | n + 1, r :: rs, h => by simp only [HtRows] at h; simp only [List.take_succ_cons, HtRows]; exact ⟨h.1, HtRows.take n rs h.2⟩
theorem HtRows.app {tab : Nat → List CT} {ts : List CT} : ∀ (a b : List (List C)), HtRows tab ts a → HtRows tab ts b → HtRows tab ts (a ++ b)
  | [], _, _, h => h
  | r :: rs, b, h, h' => by simp only [HtRows] at h; simp only [List.cons_append, HtRows]; exact ⟨h.1, HtRows.app rs b h.2 h'⟩
theorem RoomyRows.app : ∀ (a b : List (List C)), RoomyRows a → RoomyRows b → RoomyRows (a ++ b)
  | [], _, _, h => h
  | r :: rs, b, h, h' => by simp only [RoomyRows] at h; simp only [List.cons_append, RoomyRows]; exact ⟨h.1, RoomyRows.app rs b h.2 h'⟩

/-- What a copy of rows with two places of room comes to. -/
structure Copy (tab : Nat → List CT) (E sz len : Nat) (rows : List (List C)) (F : Nat → Prop) (w w' : World) (g : Nat) : Prop where
  ge : w.heap.size ≤ g
  bel : Below w.heap.size w w'
  blk : ∃ c, w'.heap[g]? = some (.cells c E (0, 0)) ∧ c.size = (len + 2) * sz
  rd : RdRows F w' g sz 0 (rows.take len ++ [(tab E).map (zeroC tab), (tab E).map (zeroC tab)])
def CopiedOK (P : Program) (tab : Nat → List CT) (f : FuncId) (E sz : Nat) : Prop :=
  ∀ (F : Nat → Prop) (w : World) (v : Value) (len cap : Nat) (rows : List (List C)), Rd F w (.sl sz len cap rows) v → HtRows tab (tab E) rows → len ≤ 68719476736 → (∀ k, F k → k < w.heap.size) →
    Calls P f #[v] w fun e w' => ∃ g, e = .returned (.slice (some ⟨g, 0, none⟩) len (len + 2)) ∧ Copy tab E sz len rows F w w' g

theorem setCells_blk (g : Nat) : ∀ (vs : List Value) (o : Nat) (w : World) (c : Array Value) (e : Nat) (fr : Nat × Nat), w.heap[g]? = some (.cells c e fr) → ∃ c', (w.setCells g o vs).heap[g]? = some (.cells c' e fr) ∧ c'.size = c.size
  | [], _, _, c, _, _, h => ⟨c, h, rfl⟩
  | v :: r, o, w, c, e, fr, h => by
    obtain ⟨c', h1, h2⟩ := setCells_blk g r (o + 1) (w.setCell ⟨g, o, none⟩ v) _ e fr (heap_setCell_at h)
    exact ⟨c', h1, by rw [h2]; simp⟩
theorem setCells_far (g k : Nat) (hk : k ≠ g) : ∀ (vs : List Value) (o : Nat) (w : World), (w.setCells g o vs).heap[k]? = w.heap[k]?
  | [], _, _ => rfl
  | v :: r, o, w => by rw [World.setCells, setCells_far g k hk r (o + 1), Below.heap_setCell _ _ _ _ hk]
theorem setCells_same (g : Nat) : ∀ (vs : List Value) (o : Nat) (w : World), (w.setCells g o vs).os = w.os ∧ (w.setCells g o vs).tape = w.tape ∧ (w.setCells g o vs).output = w.output ∧ (w.setCells g o vs).heap.size = w.heap.size
  | [], _, _ => ⟨rfl, rfl, rfl, rfl⟩
  | v :: r, o, w => by
    obtain ⟨h1, h2, h3, h4⟩ := setCells_same g r (o + 1) (w.setCell ⟨g, o, none⟩ v)
    exact ⟨h1, h2, h3, h4.trans (by simp [World.setCell])⟩
theorem setCells_fr (g : Nat) (vs : List Value) (o : Nat) (w : World) : Fr (fun k => k = g) w (w.setCells g o vs) := by
  obtain ⟨h1, h2, h3, h4⟩ := setCells_same g vs o w
  exact ⟨h1, h2, h3, by omega, fun k _ hk => setCells_far g k hk vs o w⟩
/-- What a slice that reads hands to an append, behind one new block. -/
theorem Rd.src {P : Program} {F : Nat → Prop} {w : World} {sz len cap : Nat} {rows : List (List C)} {v : Value} (tx e : Nat) (hk : P.underlying tx = some (.slice e)) (h : Rd F w (.sl sz len cap rows) v) (X : Obj) :
    ∃ news, Src P sz tx v len news (w.alloc X) ∧ RdFlat F w (rows.take len) news ∧ news.length = len * sz := by
  simp only [Rd] at h
  obtain ⟨a, rfl, h2, h3, h4⟩ := h
  rcases h4 with rfl | ⟨b, o, rfl, hF, h4⟩
  · obtain rfl : len = 0 := by simpa using h2
    cases a with
    | none => exact ⟨[], Src.ofNil _ hk cap, by simp [RdFlat], by simp⟩
    | some a => exact ⟨[], Src.ofSlice _ hk a 0 cap [] (by simp) (by simp) (by simp), by simp [RdFlat], by simp⟩
  · obtain ⟨news, k1, k2, k3⟩ := (RdRows.take len h4).flat
    have hl : news.length = len * sz := by rw [k2, List.length_take, Nat.min_eq_left h2]
    refine ⟨news, Src.ofSlice _ hk ⟨b, o, none⟩ len cap news hl (fun j u hu => ?_) (RdFlat.oneCell _ _ k1), k1, hl⟩
    have hc := k3 j u hu
    have hadd : (⟨b, o, none⟩ : Addr).add j = ⟨b, o + j, none⟩ := by unfold Addr.add; split <;> simp_all
    rw [hadd, World.cell?_alloc_past _ _ _ (World.block_lt_of_cell? w _ hc)]
    exact hc
theorem copy_done {tab : Nat → List CT} {E sz len : Nat} {rows : List (List C)} {F : Nat → Prop} {w : World} {z : Value} {news : List Value} (hz : z.cells.toList = (tab E).map zeroV) (hsz : (tab E).length = sz) (hF : ∀ k, F k → k < w.heap.size)
    (hl : news.length = len * sz) (hlr : len ≤ rows.length) (hlen : ∀ r ∈ rows, r.length = sz) (hr : RdFlat F w (rows.take len) news) :
    Copy tab E sz len rows F w ((w.alloc (.cells (madeCells z.cells ((len + 2) * sz)) E)).setCells w.heap.size 0 news) w.heap.size := by
  have hms : (madeCells z.cells ((len + 2) * sz)).size = (len + 2) * sz := size_madeCells _ _
  have hb0 : (w.alloc (.cells (madeCells z.cells ((len + 2) * sz)) E)).heap[w.heap.size]? = some (.cells (madeCells z.cells ((len + 2) * sz)) E (0, 0)) := heap_alloc_new w _
  obtain ⟨c', hb1, hb2⟩ := setCells_blk w.heap.size news 0 _ _ _ _ hb0
  have hmul : (len + 2) * sz = len * sz + 2 * sz := by rw [Nat.add_mul]
  have hcell0 : ∀ j, j < (len + 2) * sz → ∃ u, (madeCells z.cells ((len + 2) * sz))[j]? = some u := fun j hj => ⟨_, Array.getElem?_eq_getElem (by rw [hms]; exact hj)⟩
  have hF' : ∀ b, F b → F b ∧ ((w.alloc (.cells (madeCells z.cells ((len + 2) * sz)) E)).setCells w.heap.size 0 news).heap[b]? = w.heap[b]? := fun b hb => by
    have := hF b hb
    exact ⟨hb, by rw [setCells_far _ _ (by omega), Below.heap_alloc _ _ _ this]⟩
  have hbel : Below w.heap.size w ((w.alloc (.cells (madeCells z.cells ((len + 2) * sz)) E)).setCells w.heap.size 0 news) :=
    (((Fr.refl (fun k => k = w.heap.size) w).alloc _).trans' (setCells_fr w.heap.size news 0 _) (fun _ _ h => h)).below (Nat.le_refl _) (fun k hk e => by omega)
  refine ⟨Nat.le_refl _, hbel, ⟨c', hb1, hb2.trans hms⟩, ?_⟩
  rw [RdRows.app, List.length_take, Nat.min_eq_left hlr]
  constructor
  · refine RdFlat.rows _ _ 0 (RdFlat.mono hF' _ _ hr) (fun r hr => hlen r (List.mem_of_mem_take hr)) (fun j u hu => ?_)
    have hj := (List.getElem?_eq_some_iff.1 hu).1
    have := World.cell?_setCells_in w.heap.size news 0 (w.alloc (.cells (madeCells z.cells ((len + 2) * sz)) E)) (fun j hj => by
      obtain ⟨x, hx⟩ := hcell0 j (by omega)
      rw [cell_of_row _ _ _ _ _ _ hb0, Nat.zero_add, hx]; rfl) j hj
    rw [this]; rw [List.getElem?_eq_getElem hj] at hu; exact hu
  · have hzl : ((tab E).map zeroV).length = sz := by simpa using hsz
    have hzr : RdFlat F ((w.alloc (.cells (madeCells z.cells ((len + 2) * sz)) E)).setCells w.heap.size 0 news) [(tab E).map (zeroC tab), (tab E).map (zeroC tab)] ((tab E).map zeroV ++ (tab E).map zeroV) :=
      ⟨_, _, rfl, zeroRow_rd tab F _ _, _, [], by simp, zeroRow_rd tab F _ _, rfl⟩
    refine RdFlat.rows _ _ (0 + len * sz) hzr (by simp [hsz]) (fun j u hu => ?_)
    have hj : j < 2 * sz := by have := (List.getElem?_eq_some_iff.1 hu).1; simp at this; omega
    rw [World.cell?_setCells_out _ _ _ _ _ (fun _ _ => .inr (by simp [hl]))]
    have hne : 0 < sz := by omega
    have hidx : (madeCells z.cells ((len + 2) * sz))[0 + len * sz + j]? = z.cells[(0 + len * sz + j) % z.cells.size]? := by
      have hzs : z.cells.size = sz := by rw [← Array.length_toList, hz, hzl]
      have hlt : (0 + len * sz + j) % z.cells.size < z.cells.size := Nat.mod_lt _ (by omega)
      simp only [madeCells]
      rw [Array.getElem?_map, Array.getElem?_range, if_pos (by omega)]
      simp only [Option.map_some]
      rw [Array.getElem?_eq_getElem hlt]
      exact congrArg some (getElem!_pos z.cells _ hlt)
    have hzs : z.cells.size = sz := by rw [← Array.length_toList, hz, hzl]
    have hget : z.cells[(0 + len * sz + j) % z.cells.size]? = some u := by
      rw [hzs, Nat.zero_add, Nat.mul_comm, Nat.mul_add_mod, ← Array.getElem?_toList, hz]
      by_cases hjs : j < sz
      · rw [Nat.mod_eq_of_lt hjs]; rwa [List.getElem?_append_left (by omega)] at hu
      · rw [List.getElem?_append_right (by omega), hzl] at hu
        rw [Nat.mod_eq_sub_mod (by omega), Nat.mod_eq_of_lt (by omega)]; exact hu
    rw [cell_of_row _ _ _ _ _ _ hb0]
    exact hidx.trans hget
end Go.Vt
