/- Blocks of texts of one's own, and nodes with both lists of their own. -/
import Derived.Test.YtomnkglnbmnmpaaGreatDoorClone
import Derived.Laws.IdiomCopy
namespace Go.Vt
open Go.RowKit
/-- A text that a mark may lay. -/
def IsTxt (v : Value) : Prop := ∃ s, v = .string s ∧ s.size ≤ strMax
/-- Block g, of type E, has cap cells; the first n are texts. -/
def TxtAt (w : World) (E g n cap : Nat) : Prop := ∃ cur, w.heap[g]? = some (.cells cur E (0, 0)) ∧ n ≤ cap ∧ cap ≤ 2 * maxLen ∧ cur.size = cap ∧ ∀ j, j < n → ∃ s, cur[j]? = some (.string s) ∧ s.size ≤ strMax
section
variable {w W : World} {E g n cap : Nat}
theorem TxtAt.lt (h : TxtAt w E g n cap) : g < w.heap.size := by
  obtain ⟨cur, h1, _⟩ := h
  exact (Array.getElem?_eq_some_iff.1 h1).1
theorem TxtAt.cap_le (h : TxtAt w E g n cap) : n ≤ cap ∧ cap ≤ 2 * maxLen := by
  obtain ⟨cur, _, h2, h3, _⟩ := h
  exact ⟨h2, h3⟩
theorem TxtAt.cell (h : TxtAt w E g n cap) {j : Nat} (hj : j < n) : ∃ s, w.cell? ⟨g, j, none⟩ = some (.string s) ∧ s.size ≤ strMax := by
  obtain ⟨cur, h1, h2, h3, h4, h5⟩ := h
  obtain ⟨z, h6, h7⟩ := h5 j hj
  exact ⟨z, by rw [cell_of_row _ _ j _ _ _ h1]; exact h6, h7⟩
theorem TxtAt.some_cell (h : TxtAt w E g n cap) {j : Nat} (hj : j < cap) : ∃ x, w.cell? ⟨g, j, none⟩ = some x := by
  obtain ⟨cur, h1, h2, h3, h4, h5⟩ := h
  exact ⟨cur[j]'(by omega), by rw [cell_of_row _ _ j _ _ _ h1]; exact Array.getElem?_eq_getElem _⟩
theorem TxtAt.frozen (h : TxtAt w E g n cap) (j : Nat) : w.frozen? ⟨g, j, none⟩ = false := by
  obtain ⟨cur, h1, _⟩ := h
  simp [World.frozen?, h1]
theorem TxtAt.le (h : TxtAt w E g n cap) {m : Nat} (hm : m ≤ n) : TxtAt w E g m cap := by
  obtain ⟨cur, h1, h2, h3, h4, h5⟩ := h
  exact ⟨cur, h1, by omega, h3, h4, fun j hj => h5 j (by omega)⟩
theorem TxtAt.keep (h : TxtAt w E g n cap) (hb : W.heap[g]? = w.heap[g]?) : TxtAt W E g n cap := by
  obtain ⟨cur, h1, h2⟩ := h
  exact ⟨cur, hb.trans h1, h2⟩
theorem TxtAt.drew (h : TxtAt w E g n cap) : TxtAt w.drew E g n cap := h
theorem TxtAt.shape (h : TxtAt w E g n cap) : w.shape? g = some (E, cap) := by
  obtain ⟨cur, h1, h2, h3, h4, h5⟩ := h
  simp [World.shape?, h1, h4]
theorem TxtAt.set (h : TxtAt w E g n cap) (j : Nat) {u : Value} (hu : IsTxt u) : TxtAt (w.setCell ⟨g, j, none⟩ u) E g n cap := by
  obtain ⟨cur, h1, h2, h3, h4, h5⟩ := h
  obtain ⟨s, rfl, hs⟩ := hu
  refine ⟨cur.setIfInBounds j (.string s), ?_, h2, h3, by simpa using h4, fun k hk => ?_⟩
  · simp only [World.setCell, Array.getElem?_modify, if_pos, h1, Option.map_some]
    rfl
  · by_cases e : j = k
    · subst e
      exact ⟨s, by rw [Array.getElem?_setIfInBounds_self_of_lt (by omega)], hs⟩
    · obtain ⟨y, h6, h7⟩ := h5 k hk
      exact ⟨y, by rw [Array.getElem?_setIfInBounds_ne e]; exact h6, h7⟩
theorem TxtAt.sets : ∀ (vs : List Value) (o : Nat) {w : World}, (∀ v ∈ vs, IsTxt v) → TxtAt w E g n cap → TxtAt (w.setCells g o vs) E g n cap
  | [], _, _, _, h => h
  | v :: vs, o, _, hv, h => TxtAt.sets vs (o + 1) (fun x hx => hv x (by simp [hx])) (h.set o (hv v (by simp)))
/-- Texts written at the end, or ahead of it. -/
theorem TxtAt.cover : ∀ (vs : List Value) (n o : Nat) (w : World), (∀ v ∈ vs, IsTxt v) → TxtAt w E g n cap → o ≤ n → o + vs.length ≤ cap → TxtAt (w.setCells g o vs) E g (max n (o + vs.length)) cap
  | [], n, o, w, _, h, ho, _ => by rw [List.length_nil, Nat.add_zero, Nat.max_eq_left ho]; exact h
  | v :: vs, n, o, w, hv, h, ho, hc => by
    obtain ⟨s, rfl, hs⟩ := hv v (by simp)
    rw [List.length_cons] at hc ⊢
    have h1 : TxtAt (w.setCell ⟨g, o, none⟩ (.string s)) E g (max n (o + 1)) cap := by
      by_cases e : o < n
      · rw [Nat.max_eq_left e]; exact h.set o ⟨s, rfl, hs⟩
      · obtain rfl : o = n := by omega
        rw [Nat.max_eq_right (by omega)]
        obtain ⟨cur, h1, h2, h3, h4, h5⟩ := h
        refine ⟨cur.setIfInBounds o (.string s), ?_, by omega, h3, by simpa using h4, fun k hk => ?_⟩
        · simp only [World.setCell, Array.getElem?_modify, if_pos, h1, Option.map_some]
          rfl
        · by_cases e : o = k
          · subst e
            exact ⟨s, by rw [Array.getElem?_setIfInBounds_self_of_lt (by omega)], hs⟩
          · obtain ⟨y, h6, h7⟩ := h5 k (by omega)
            exact ⟨y, by rw [Array.getElem?_setIfInBounds_ne e]; exact h6, h7⟩
    have h2 := TxtAt.cover vs (max n (o + 1)) (o + 1) _ (fun x hx => hv x (by simp [hx])) h1 (by omega) (by omega)
    rw [show max (max n (o + 1)) (o + 1 + vs.length) = max n (o + (vs.length + 1)) from by omega] at h2
    exact h2
/-- A block of texts, and their list. -/
theorem TxtAt.list (h : TxtAt w E g n cap) : ∃ cs : List Value, cs.length = n ∧ (∀ j v, cs[j]? = some v → w.cell? ⟨g, j, none⟩ = some v) ∧ ∀ v ∈ cs, IsTxt v := by
  obtain ⟨cur, h1, h2, h3, h4, h5⟩ := h
  refine ⟨cur.toList.take n, by rw [List.length_take, Array.length_toList]; omega, fun j v hv => ?_, fun v hv => ?_⟩
  · have hj : j < n := by have := (List.getElem?_eq_some_iff.1 hv).1; rw [List.length_take] at this; omega
    rw [List.getElem?_take_of_lt hj, Array.getElem?_toList] at hv
    rw [cell_of_row _ _ j _ _ _ h1]; exact hv
  · obtain ⟨j, hj⟩ := List.getElem?_of_mem hv
    have hjn : j < n := by have := (List.getElem?_eq_some_iff.1 hj).1; rw [List.length_take] at this; omega
    rw [List.getElem?_take_of_lt hjn, Array.getElem?_toList] at hj
    obtain ⟨z, h6, h7⟩ := h5 j hjn
    rw [h6] at hj
    injection hj with hj
    exact ⟨z, hj.symm, h7⟩
/-- A new block of texts. -/
theorem TxtAt.new (w : World) (cs : Array Value) (E n : Nat) (hn : n ≤ cs.size) (hm : cs.size ≤ 2 * maxLen) (hc : ∀ j, j < n → ∃ s, cs[j]? = some (.string s) ∧ s.size ≤ strMax) : TxtAt (w.alloc (.cells cs E)) E w.heap.size n cs.size :=
  ⟨cs, heap_alloc_new w _, hn, hm, rfl, hc⟩
/-- The block reads as data in new memory: rows of two texts. -/
theorem TxtAt.rd {cap l : Nat} (h : TxtAt w E g (l * 2) (cap * 2)) {tab : Nat → List CT} {B : Nat} (hB : B ≤ g) : ∃ rows, Rd (Nw B w) w (.sl 2 l cap rows) (.slice (some ⟨g, 0, none⟩) l cap) ∧ HtRows tab [.str, .str] rows ∧ nodesRows rows = 3 * l := by
  have hlt := h.lt
  obtain ⟨cur, h1, h2, h3, h4, h5⟩ := h
  have key : ∀ m, m ≤ l → ∀ o, o + m = l → ∃ rows : List (List C), rows.length = m ∧ RdRows (Nw B w) w g 2 (o * 2) rows ∧ HtRows tab [.str, .str] rows ∧ nodesRows rows = 3 * m := by
    intro m
    induction m with
    | zero => exact fun _ o _ => ⟨[], rfl, by simp [RdRows], by simp [HtRows], by simp [nodesRows]⟩
    | succ m ih =>
      intro hm o ho
      obtain ⟨rows, r1, r2, r3, r4⟩ := ih (by omega) (o + 1) (by omega)
      obtain ⟨z, h6, h7⟩ := h5 (o * 2) (by omega)
      obtain ⟨y, h8, h9⟩ := h5 (o * 2 + 1) (by omega)
      refine ⟨[.str z, .str y] :: rows, by simp [r1], ?_, ?_, by simp only [nodesRows, nodesRow, nodes]; omega⟩
      · simp only [RdRows, RdRow, and_true]
        rw [show o * 2 + 2 = (o + 1) * 2 from by omega]
        exact ⟨⟨rfl, ⟨_, by rw [cell_of_row _ _ _ _ _ _ h1]; exact h6, by simp [Rd]⟩, ⟨_, by rw [cell_of_row _ _ _ _ _ _ h1]; exact h8, by simp [Rd]⟩⟩, r2⟩
      · simp only [HtRows, HtRow, Ht, and_true]
        exact ⟨⟨⟨trivial, h7⟩, trivial, h9⟩, r3⟩
  obtain ⟨rows, r1, r2, r3, r4⟩ := key l (Nat.le_refl _) 0 (by omega)
  refine ⟨rows, ?_, r3, r4⟩
  simp only [Rd]
  exact ⟨_, rfl, by omega, by omega, .inr ⟨g, 0, rfl, ⟨hB, hlt, _, _, h1⟩, by simpa using r2⟩⟩
/-- Texts, row by row, are texts, cell by cell. -/
theorem txts_of_flat {tab : Nat → List CT} {F : Nat → Prop} : ∀ (rs : List (List C)) (xs : List Value), RdFlat F w rs xs → HtRows tab [.str, .str] rs → xs.length = rs.length * 2 ∧ ∀ v ∈ xs, IsTxt v
  | [], xs, h, _ => by simp only [RdFlat] at h; subst h; simp
  | r :: rs, xs, ⟨v1, v2, e, h1, h2⟩, ht => by
    simp only [HtRows] at ht
    obtain ⟨ht1, ht2⟩ := ht
    obtain ⟨c0, cs0, rfl, k0, k1⟩ := ht1.cons
    obtain ⟨c1, cs1, rfl, k2, k3⟩ := k1.cons
    obtain rfl := k3.nil
    obtain ⟨u, us, rfl, b0, b1⟩ := h1.cons
    obtain ⟨u2, us2, rfl, b2, b3⟩ := b1.cons
    obtain rfl := b3.nil
    have hz : ∀ {c : C} {u : Value}, Ht tab .str c → Rd F w c u → IsTxt u := fun {c u} k b => by
      cases c with
      | str s => simp only [Ht] at k; simp only [Rd] at b; exact ⟨s, b, k.2⟩
      | _ => simp [Ht] at k
    obtain ⟨e1, e2⟩ := txts_of_flat rs v2 h2 ht2
    subst e
    refine ⟨by simp [e1]; omega, fun v hv => ?_⟩
    simp only [List.cons_append, List.nil_append, List.mem_cons] at hv
    rcases hv with rfl | rfl | hv
    · exact hz k0 b0
    · exact hz k2 b2
    · exact e2 v hv
/-- A row of texts of one's own is a block of texts. -/
theorem TxtAt.of_own {B l : Nat} {v : Value} {xs : List Value} (h : w.ownsRow B E 2 v l xs) (hx : ∀ v ∈ xs, IsTxt v) : (v = .slice none 0 0 ∧ l = 0) ∨ ∃ g c, v = .slice (some ⟨g, 0, none⟩) l c ∧ B ≤ g ∧ TxtAt w E g (l * 2) (c * 2) := by
  rcases h.2 with h0 | ⟨g, c, cur, rfl, hb, hg, hc, hm, hs, ht⟩
  · exact .inl h0
  · refine .inr ⟨g, c, rfl, hb, cur, hg, by omega, by omega, hs, fun j hj => ?_⟩
    have hxl := h.1
    have hj2 : j < xs.length := by omega
    obtain ⟨s, h1, h2⟩ := hx xs[j] (List.getElem_mem hj2)
    refine ⟨s, ?_, h2⟩
    have h3 : xs[j]? = some (.string s) := by rw [List.getElem?_eq_getElem hj2, h1]
    rw [← ht, List.getElem?_take_of_lt (by omega), Array.getElem?_toList] at h3
    exact h3
end
end Go.Vt
namespace Go.Vt
open Go.RowKit
/-- A list of attributes: none, or the first of a block of texts. -/
def AttV (F : Nat → Prop) (w : World) (A : Nat) (v : Value) (l : Nat) : Prop := (v = .slice none 0 0 ∧ l = 0) ∨ ∃ g c, v = .slice (some ⟨g, 0, none⟩) l c ∧ F g ∧ TxtAt w A g (l * 2) (c * 2)
/-- The cells of a node, q values of data at the most. -/
def NodeW (A I : Nat) (F J : Nat → Prop) (w : World) (q : Nat) (us : List Value) : Prop :=
  ∃ (tag : ByteArray) (v1 : Value) (p : Int) (v3 : Value) (l1 l3 : Nat), us = [.string tag, v1, .int .i64 p, v3] ∧ tag.size ≤ strMax ∧ IntKind.i64.wrap p = p ∧ AttV F w A v1 l1 ∧ KidV J w I v3 l3 ∧ 6 + 3 * l1 + 2 * l3 ≤ q
section
variable {tab : Nat → List CT} {A I q : Nat} {F F' J J' : Nat → Prop} {w W : World} {us : List Value}
theorem AttV.mono {v : Value} {l : Nat} (h : AttV F w A v l) (hF : ∀ k, F k → F' k ∧ ∀ n c, TxtAt w A k n c → TxtAt W A k n c) : AttV F' W A v l := by
  rcases h with h | ⟨g, c, h1, h2, h3⟩
  · exact .inl h
  · exact .inr ⟨g, c, h1, (hF g h2).1, (hF g h2).2 _ _ h3⟩
theorem NodeW.mono (h : NodeW A I F J w q us) (hF : ∀ k, F k → F' k ∧ ∀ n c, TxtAt w A k n c → TxtAt W A k n c) (hJ : ∀ k, J k → J' k ∧ ∀ n c, IntsAt w I k n c → IntsAt W I k n c) : NodeW A I F' J' W q us := by
  obtain ⟨tag, v1, p, v3, l1, l3, h1, h2, h3, h4, h6, h7⟩ := h
  exact ⟨tag, v1, p, v3, l1, l3, h1, h2, h3, h4.mono hF, h6.mono hJ, h7⟩
/-- A node of one's own is a row of data in new memory. -/
theorem NodeW.row (h : NodeW A I F J w q us) {B : Nat} (hF : ∀ k, F k → B ≤ k) (hJ : ∀ k, J k → B ≤ k) (hI : tab I = [.int .i64]) (hA : tab A = [.str, .str]) : ∃ r, RdVals (Nw B w) w r us ∧ HtRow tab [.str, .sl A, .int .i64, .sl I] r ∧ 1 + nodesRow r ≤ q := by
  obtain ⟨tag, v1, p, v3, l1, l3, rfl, h2, h3, h4, h6, h7⟩ := h
  have ha : ∃ cA rA, Rd (Nw B w) w (.sl 2 l1 cA rA) v1 ∧ HtRows tab [.str, .str] rA ∧ nodesRows rA = 3 * l1 := by
    rcases h4 with ⟨rfl, rfl⟩ | ⟨g, c, rfl, hg, hi⟩
    · exact ⟨0, [], by simp only [Rd]; exact ⟨none, rfl, by simp, by simp, .inl trivial⟩, by simp [HtRows], by simp [nodesRows]⟩
    · obtain ⟨rows, r1, r2, r3⟩ := hi.rd (tab := tab) (B := B) (hF g hg)
      exact ⟨c, rows, r1, r2, r3⟩
  have hk : ∃ cK rK, Rd (Nw B w) w (.sl 1 l3 cK rK) v3 ∧ HtRows tab [.int .i64] rK ∧ nodesRows rK = 2 * l3 := by
    rcases h6 with ⟨rfl, rfl⟩ | ⟨g, c, rfl, hg, hi⟩
    · exact ⟨0, [], by simp only [Rd]; exact ⟨none, rfl, by simp, by simp, .inl trivial⟩, by simp [HtRows], by simp [nodesRows]⟩
    · obtain ⟨rows, r1, r2, r3⟩ := hi.rd (tab := tab) (B := B) (hJ g hg)
      exact ⟨c, rows, r1, r2, r3⟩
  obtain ⟨cA, rA, a1, a2, a3⟩ := ha
  obtain ⟨cK, rK, k1, k2, k3⟩ := hk
  refine ⟨[.str tag, .sl 2 l1 cA rA, .int .i64 p, .sl 1 l3 cK rK], ?_, ?_, by simp only [nodesRow, nodes]; omega⟩
  · simp only [RdVals, and_true]
    exact ⟨by simp [Rd], a1, by simp [Rd], k1⟩
  · simp only [HtRow, and_true]
    refine ⟨by simp only [Ht]; exact ⟨trivial, h2⟩, by simp only [Ht]; exact ⟨A, rfl, by rw [hA]; rfl, by rw [hA]; exact a2⟩, by simp only [Ht]; exact ⟨trivial, h3⟩, ?_⟩
    simp only [Ht]; exact ⟨I, rfl, by rw [hI]; rfl, by rw [hI]; exact k2⟩
end
/-- Nodes of one's own, one behind the other. -/
def NodesW (A I : Nat) (F J : Nat → Prop) (w : World) : Nat → Nat → List Value → Prop
  | 0, _, xs => xs = []
  | n + 1, m, xs => ∃ us ys q, xs = us ++ ys ∧ q ≤ m ∧ NodeW A I F J w q us ∧ NodesW A I F J w n (m - q) ys
section
variable {tab : Nat → List CT} {A I : Nat} {F F' J J' : Nat → Prop} {w W : World}
theorem NodesW.mono (hF : ∀ k, F k → F' k ∧ ∀ n c, TxtAt w A k n c → TxtAt W A k n c) (hJ : ∀ k, J k → J' k ∧ ∀ n c, IntsAt w I k n c → IntsAt W I k n c) : ∀ (n m : Nat) (xs : List Value), NodesW A I F J w n m xs → NodesW A I F' J' W n m xs
  | 0, _, _, h => h
  | n + 1, m, _, ⟨us, ys, q, h1, h2, h3, h4⟩ => ⟨us, ys, q, h1, h2, h3.mono hF hJ, NodesW.mono hF hJ n (m - q) ys h4⟩
theorem NodesW.more : ∀ (n m m' : Nat) (xs : List Value), m ≤ m' → NodesW A I F J w n m xs → NodesW A I F J w n m' xs
  | 0, _, _, _, _, h => h
  | n + 1, m, m', _, hm, ⟨us, ys, q, h1, h2, h3, h4⟩ => ⟨us, ys, q, h1, by omega, h3, NodesW.more n (m - q) (m' - q) ys (by omega) h4⟩
theorem NodesW.snoc : ∀ (n m q : Nat) (xs us : List Value), NodesW A I F J w n m xs → NodeW A I F J w q us → NodesW A I F J w (n + 1) (m + q) (xs ++ us)
  | 0, m, q, xs, us, h, hu => by
    simp only [NodesW] at h; subst h
    exact ⟨us, [], q, by simp, by omega, hu, by simp [NodesW]⟩
  | n + 1, m, q, _, us, ⟨us', ys, q', h1, h2, h3, h4⟩, hu => by
    subst h1
    refine ⟨us', ys ++ us, q', by simp, by omega, h3, ?_⟩
    have := NodesW.snoc n (m - q') q ys us h4 hu
    rwa [show m - q' + q = m + q - q' from by omega] at this
/-- Nodes of one's own are rows of data in new memory. -/
theorem NodesW.flat {B : Nat} (hF : ∀ k, F k → B ≤ k) (hJ : ∀ k, J k → B ≤ k) (hI : tab I = [.int .i64]) (hA : tab A = [.str, .str]) : ∀ (n m : Nat) (xs : List Value), NodesW A I F J w n m xs → ∃ rs, RdFlat (Nw B w) w rs xs ∧ rs.length = n ∧ HtRows tab [.str, .sl A, .int .i64, .sl I] rs ∧ nodesRows rs ≤ m
  | 0, m, xs, h => by simp only [NodesW] at h; subst h; exact ⟨[], by simp [RdFlat], rfl, by simp [HtRows], by simp [nodesRows]⟩
  | n + 1, m, _, ⟨us, ys, q, h1, h2, h3, h4⟩ => by
    obtain ⟨r, a1, a2, a3⟩ := h3.row hF hJ hI hA
    obtain ⟨rs, b1, b2, b3, b4⟩ := NodesW.flat hF hJ hI hA n (m - q) ys h4
    exact ⟨r :: rs, ⟨us, ys, h1, a1, b1⟩, by simp [b2], by simp only [HtRows]; exact ⟨a2, b3⟩, by simp only [nodesRows]; omega⟩
theorem NodeW.length {q : Nat} {us : List Value} (h : NodeW A I F J w q us) : us.length = 4 := by
  obtain ⟨tag, v1, p, v3, l1, l3, rfl, _⟩ := h
  rfl
/-- Node i, and what stands ahead of it and behind it; another may take its place. -/
theorem NodesW.at : ∀ (n m i : Nat) (xs : List Value), i < n → NodesW A I F J w n m xs → ∃ pre us post q, xs = pre ++ (us ++ post) ∧ pre.length = i * 4 ∧ NodeW A I F J w q us ∧ q ≤ m ∧ ∀ us' q', NodeW A I F J w q' us' → NodesW A I F J w n (m - q + q') (pre ++ (us' ++ post))
  | 0, _, _, _, hi, _ => by omega
  | n + 1, m, 0, _, _, ⟨us, ys, q, h1, h2, h3, h4⟩ => by
    refine ⟨[], us, ys, q, by simp [h1], by simp, h3, h2, fun us' q' hu => ⟨us', ys, q', by simp, by omega, hu, ?_⟩⟩
    exact NodesW.more n _ _ _ (by omega) h4
  | n + 1, m, i + 1, _, hi, ⟨us, ys, q, h1, h2, h3, h4⟩ => by
    obtain ⟨pre, u2, post, q2, k1, k2, k3, k4, k5⟩ := NodesW.at n (m - q) i ys (by omega) h4
    refine ⟨us ++ pre, u2, post, q2, by simp [h1, k1], by rw [List.length_append, h3.length, k2]; omega, k3, by omega, fun us' q' hu => ?_⟩
    refine ⟨us, pre ++ (us' ++ post), q, by simp, by omega, h3, ?_⟩
    exact NodesW.more n _ _ _ (by omega) (k5 us' q' hu)
theorem NodesW.length : ∀ (n m : Nat) (xs : List Value), NodesW A I F J w n m xs → xs.length = n * 4
  | 0, _, _, h => by simp only [NodesW] at h; subst h; rfl
  | n + 1, m, _, ⟨us, ys, q, h1, _, h3, h4⟩ => by rw [h1, List.length_append, h3.length, NodesW.length n (m - q) ys h4]; omega
end
/-- In cell d (a block of type T) stands a slice of n nodes of one's own (blocks of type E), m values of data at the most. F: what their attributes lie in; J: what their lists of numbers lie in. -/
structure GrowPW (R : Nat → List Value → World → Prop) (A I T E d m n : Nat) (a : Option Addr) (c : Nat) (xs : List Value) (F J : Nat → Prop) (u : Nat) (w : World) : Prop where
  hd : w.heap[d]? = some (.cells #[.slice a n c] T (0, 0))
  own : w.ownsRow (d + 1) E 4 (.slice a n c) n xs
  ns : NodesW A I F J w n m xs
  hR : R n xs w
  hF : ∀ k, F k → Nw (d + 1) w k ∧ (Value.slice a n c).ownBlock ≠ some k
  hJ : ∀ k, J k → Nw (d + 1) w k ∧ (Value.slice a n c).ownBlock ≠ some k
  hFJ : ∀ k, F k → ¬ J k
  hu : ∀ k, ((Value.slice a n c).ownBlock = some k → d < k ∧ k < u) ∧ (F k → k < u) ∧ (J k → k < u)
def GrowW (R : Nat → List Value → World → Prop) (A I T E d m n : Nat) (w : World) : Prop := ∃ (a : Option Addr) (c : Nat) (xs : List Value) (F J : Nat → Prop), GrowPW R A I T E d m n a c xs F J w.heap.size w
section
variable {R : Nat → List Value → World → Prop} {A I T E d m n : Nat} {w W : World}
theorem GrowW.start (w : World) (T : Nat) (h0 : R 0 [] (w.alloc (Obj.cells #[.slice none 0 0] T))) : GrowW R A I T E w.heap.size 0 0 (w.alloc (Obj.cells #[.slice none 0 0] T)) :=
  ⟨none, 0, [], fun _ => False, fun _ => False, heap_alloc_new w _, World.ownsRow_nil _ _ _ _, by simp [NodesW], h0, fun _ h => h.elim, fun _ h => h.elim, fun _ h => h.elim, fun _ => ⟨fun h => by simp [Value.ownBlock] at h, fun h => h.elim, fun h => h.elim⟩⟩
theorem GrowW.lt (h : GrowW R A I T E d m n w) : d < w.heap.size := by
  obtain ⟨a, c, xs, F, J, h⟩ := h
  exact (Array.getElem?_eq_some_iff.1 h.hd).1
theorem GrowW.more {m' : Nat} (h : GrowW R A I T E d m n w) (hm : m ≤ m') : GrowW R A I T E d m' n w := by
  obtain ⟨a, c, xs, F, J, h⟩ := h
  exact ⟨a, c, xs, F, J, h.hd, h.own, NodesW.more _ _ _ _ hm h.ns, h.hR, h.hF, h.hJ, h.hFJ, h.hu⟩
/-- The parts, behind what leaves all old blocks; what they lie in is old. -/
theorem GrowW.parts (h : GrowW R A I T E d m n w) (hb : Below w.heap.size w W) (hm : ∀ xs, R n xs w → R n xs W) : ∃ (a : Option Addr) (c : Nat) (xs : List Value) (F J : Nat → Prop), GrowPW R A I T E d m n a c xs F J w.heap.size W := by
  obtain ⟨a, c, xs, F, J, h⟩ := h
  exact ⟨a, c, xs, F, J, (hb.block d (Array.getElem?_eq_some_iff.1 h.hd).1).trans h.hd, ownsRow_below h.own hb,
    NodesW.mono (fun k hk => ⟨hk, fun _ _ hi => hi.keep (nw_below hb (h.hF k hk).1).2⟩) (fun k hk => ⟨hk, fun _ _ hi => hi.keep (nw_below hb (h.hJ k hk).1).2⟩) _ _ _ h.ns, hm _ h.hR,
    fun k hk => ⟨(nw_below hb (h.hF k hk).1).1, (h.hF k hk).2⟩, fun k hk => ⟨(nw_below hb (h.hJ k hk).1).1, (h.hJ k hk).2⟩, h.hFJ, h.hu⟩
/-- One node more: behind the block of the new row, the append, and the store. -/
theorem GrowPW.push {a : Option Addr} {c q u : Nat} {xs us : List Value} {F J F2 J2 : Nat → Prop} {X : Obj} {w' : World} {g cap : Nat} (h : GrowPW R A I T E d m n a c xs F J u W)
    (hr : NodeW A I F2 J2 W q us) (hR : R (n + 1) (xs ++ us) (w'.setCell ⟨d, 0, none⟩ (.slice (some ⟨g, 0, none⟩) (n + 1) cap))) (hF2 : ∀ k, F2 k → Nw (d + 1) W k ∧ u ≤ k) (hJ2 : ∀ k, J2 k → Nw (d + 1) W k ∧ u ≤ k) (h22 : ∀ k, F2 k → ¬ J2 k)
    (ho : w'.ownsRow (d + 1) E 4 (.slice (some ⟨g, 0, none⟩) (n + 1) cap) (n + 1) (xs ++ us)) (hg : (W.alloc X).grownBy w' (Value.slice a n c).ownBlock) (hor : (Value.slice a n c).ownBlock = some g ∨ g = (W.alloc X).heap.size) :
    GrowW R A I T E d (m + q) (n + 1) (w'.setCell ⟨d, 0, none⟩ (.slice (some ⟨g, 0, none⟩) (n + 1) cap)) ∧ ∀ B, B ≤ d → Below B W (w'.setCell ⟨d, 0, none⟩ (.slice (some ⟨g, 0, none⟩) (n + 1) cap)) := by
  have hd := (Array.getElem?_eq_some_iff.1 h.hd).1
  have h8 : ∀ k, (Value.slice a n c).ownBlock = some k → d < k ∧ k < u := fun k hk => (h.hu k).1 hk
  have hsz : (W.alloc X).heap.size = W.heap.size + 1 := alloc_size' _ _
  have keep : ∀ k, k < W.heap.size → (Value.slice a n c).ownBlock ≠ some k → w'.heap[k]? = W.heap[k]? := fun k hk hn =>
    (hg.block k (by rw [hsz]; omega) (fun e => hn e.symm)).trans (Below.heap_alloc _ _ _ hk)
  have hd' : w'.heap[d]? = some (.cells #[.slice a n c] T (0, 0)) := (keep d hd (fun e => by have := h8 d e; omega)).trans h.hd
  have hgd : d < g := by
    rcases hor with h | h
    · exact (h8 g h).1
    · omega
  have hglt : g < w'.heap.size := by
    rcases ho.2 with ⟨h, _⟩ | ⟨g', cap', cur, h, _, hh, _⟩
    · cases h
    · injection h with h
      injection h with h
      injection h with h
      subst h
      exact (Array.getElem?_eq_some_iff.1 hh).1
  have far : ∀ k, k ≠ d → (w'.setCell ⟨d, 0, none⟩ (.slice (some ⟨g, 0, none⟩) (n + 1) cap)).heap[k]? = w'.heap[k]? := fun k hk => Below.heap_setCell _ _ _ _ hk
  have size' : (w'.setCell ⟨d, 0, none⟩ (.slice (some ⟨g, 0, none⟩) (n + 1) cap)).heap.size = w'.heap.size := setCell_size _ _ _
  have good : ∀ k, (Nw (d + 1) W k ∧ (Value.slice a n c).ownBlock ≠ some k) → (w'.setCell ⟨d, 0, none⟩ (.slice (some ⟨g, 0, none⟩) (n + 1) cap)).heap[k]? = W.heap[k]? ∧ Nw (d + 1) (w'.setCell ⟨d, 0, none⟩ (.slice (some ⟨g, 0, none⟩) (n + 1) cap)) k ∧ k ≠ g ∧ k < w'.heap.size := by
    intro k ⟨⟨a1, a2, cc, e, a3⟩, a4⟩
    have e1 := (far k (by omega)).trans (keep k a2 a4)
    have e2 : k < w'.heap.size := by have := hg.size; omega
    refine ⟨e1, ⟨a1, by rw [size']; exact e2, cc, e, e1.trans a3⟩, ?_, e2⟩
    rcases hor with h | h
    · intro e; subst e; exact a4 h
    · omega
  have own2 : ∀ k, u ≤ k → (Value.slice a n c).ownBlock ≠ some k := fun k hk e => by have := (h8 k e).2; omega
  have gF : ∀ k, F k ∨ F2 k → Nw (d + 1) W k ∧ (Value.slice a n c).ownBlock ≠ some k := fun k hk => by
    rcases hk with hk | hk
    · exact h.hF k hk
    · exact ⟨(hF2 k hk).1, own2 k (hF2 k hk).2⟩
  have gJ : ∀ k, J k ∨ J2 k → Nw (d + 1) W k ∧ (Value.slice a n c).ownBlock ≠ some k := fun k hk => by
    rcases hk with hk | hk
    · exact h.hJ k hk
    · exact ⟨(hJ2 k hk).1, own2 k (hJ2 k hk).2⟩
  have nog : ∀ k, k ≠ g → (Value.slice (some ⟨g, 0, none⟩) (n + 1) cap).ownBlock ≠ some k := fun k hk => by
    simp only [Value.ownBlock, ne_eq, Option.some.injEq]
    exact fun e => hk e.symm
  refine ⟨⟨some ⟨g, 0, none⟩, cap, xs ++ us, fun k => F k ∨ F2 k, fun k => J k ∨ J2 k, setCell_one hd', ownsRow_setCell_below ho (Nat.lt_succ_self d) _, ?_, hR, fun k hk => ?_, fun k hk => ?_, fun k hk hj => ?_, fun k => ⟨fun hk => ?_, fun hk => ?_, fun hk => ?_⟩⟩, fun B hB => ?_⟩
  · exact NodesW.snoc n m q xs us (NodesW.mono (fun k hk => ⟨.inl hk, fun _ _ hi => hi.keep (good k (gF k (.inl hk))).1⟩) (fun k hk => ⟨.inl hk, fun _ _ hi => hi.keep (good k (gJ k (.inl hk))).1⟩) _ _ _ h.ns)
      (hr.mono (fun k hk => ⟨.inr hk, fun _ _ hi => hi.keep (good k (gF k (.inr hk))).1⟩) (fun k hk => ⟨.inr hk, fun _ _ hi => hi.keep (good k (gJ k (.inr hk))).1⟩))
  · have := good k (gF k hk)
    exact ⟨this.2.1, nog k this.2.2.1⟩
  · have := good k (gJ k hk)
    exact ⟨this.2.1, nog k this.2.2.1⟩
  · rcases hk with hk | hk <;> rcases hj with hj | hj
    · exact h.hFJ k hk hj
    · have := (h.hu k).2.1 hk; have := (hJ2 k hj).2; omega
    · have := (h.hu k).2.2 hj; have := (hF2 k hk).2; omega
    · exact h22 k hk hj
  · simp only [Value.ownBlock, Option.some.injEq] at hk
    subst hk
    exact ⟨hgd, by rw [size']; exact hglt⟩
  · rw [size']; exact (good k (gF k hk)).2.2.2
  · rw [size']; exact (good k (gJ k hk)).2.2.2
  · exact (((Below.refl B W).alloc (by omega) X).grown hg (by omega) (fun k hk => by have := h8 k hk; omega)).setCell hB _
end
end Go.Vt
