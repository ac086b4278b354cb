/- attrs.Set, Get and Unset: a tree in new memory, or none. -/
import Derived.Test.YtomnkglnbmnmpaaGreatDoorInsert
import Derived.Test.YtomnkglnbmnmpaaGreatDoorAppended
import Derived.WalkKit
import Derived.WalkSpells
import Derived.WalkLawsBesides
import Derived.Deep.AppendLies
import Derived.Test.YtomnkglnbmnmpaaGreatDoorTwin
import Derived.Test.YtomnkglnbmnmpaaGreatDoorLinks
import Derived.OwnWalk
import Derived.Lib.SliceRun
import Derived.Deep.RegionWith
import Derived.RegionTactic
namespace Go.Proofs.YtomnkglnbmnmpaaGreatDoor
open Go.RowKit Go.Vt Go.Proofs
set_option maxRecDepth 100000 in
/-- tree.New: what it answers. -/
theorem new2_ok (w : World) (s : ByteArray) : Calls Tryz.prog 82 #[.string s] w fun e w' => (∃ (a : Option Addr) (l c : Nat) (n : Int), e = .returned (.tuple #[.agg #[.slice a l c], .int .i64 n])) ∧ Below w.heap.size w w' := by
  obtain ⟨W, hW⟩ : ∃ W, W = w.alloc (Obj.cells #[Value.slice none 0 0] 24) := ⟨_, rfl⟩
  have hb1 : Below w.heap.size w W := by rw [hW]; exact (Below.refl _ _).alloc (Nat.le_refl _) _
  have s1 : W.heap.size = w.heap.size + 1 := by rw [hW, alloc_size]
  have hc := named_is s W
  have HC := Lib.hid hc
  have HW := Lib.hid hW
  have HB1 := Lib.hid hb1
  clear hc hW hb1
  go_enter Tryz.func82, Tryz.ntmps82
  go_wp2_with fail
  rw [← HW.out]
  refine HC.out.mono ?_
  rintro e w1 ⟨rfl, hw1⟩
  rw [hw1, HW.out]
  clear hw1
  cases namedB s with
  | false =>
    go_wp2_with fail
    have e0 : (w.alloc (Obj.cells #[Value.slice none 0 0] 24)).cell? ⟨w.heap.size, 0, none⟩ = some (Value.slice none 0 0) := cell_of_row _ _ 0 _ _ _ (heap_alloc_new w _)
    refine bodyPost_ret (v := .tuple #[.agg #[.slice none 0 0], .int .i64 2]) (by simp [results, Tryz.results82, go_sem, e0]) rfl ?_
    exact ⟨⟨_, _, _, _, rfl⟩, (Below.refl _ _).alloc (Nat.le_refl _) _⟩
  | true =>
    go_wp2_with fail
    obtain ⟨W2, hW2⟩ : ∃ W2, W2 = (w.alloc (Obj.cells #[Value.slice (some ⟨w.heap.size + 1, 0, none⟩) 1 1] 24)).alloc (Obj.cells #[Value.string s, Value.slice none 0 0, Value.int .i64 (-1), Value.slice none 0 0] 107) := ⟨_, rfl⟩
    have s2 : W2.heap.size = w.heap.size + 2 := by rw [hW2, alloc_size, alloc_size]
    have b2 : Below w.heap.size w W2 := by rw [hW2]; exact ((Below.refl _ _).alloc (Nat.le_refl _) _).alloc (by rw [alloc_size]; omega) _
    have x2 : W2.heap[w.heap.size]? = some (.cells #[Value.slice (some ⟨w.heap.size + 1, 0, none⟩) 1 1] 24 (0, 0)) := by rw [hW2]; exact (Below.heap_alloc _ _ _ (by rw [alloc_size]; omega)).trans (heap_alloc_new w _)
    have y2 : W2.heap[w.heap.size + 1]? = some (.cells #[Value.string s, Value.slice none 0 0, Value.int .i64 (-1), Value.slice none 0 0] 107 (0, 0)) := by
      rw [hW2]; have := heap_alloc_new (w.alloc (Obj.cells #[Value.slice (some ⟨w.heap.size + 1, 0, none⟩) 1 1] 24)) (Obj.cells #[Value.string s, Value.slice none 0 0, Value.int .i64 (-1), Value.slice none 0 0] 107); rwa [alloc_size] at this
    rw [← hW2]
    have e0 : W2.cell? ⟨w.heap.size, 0, none⟩ = some (Value.slice (some ⟨w.heap.size + 1, 0, none⟩) 1 1) := cell_of_row _ _ 0 _ _ _ x2
    refine bodyPost_ret (v := .tuple #[.agg #[.slice (some ⟨w.heap.size + 1, 0, none⟩) 1 1], .int .i64 0]) (by simp [results, Tryz.results82, go_sem, e0]) rfl ?_
    exact ⟨⟨_, _, _, _, rfl⟩, b2⟩
/-- Blocks of texts stay blocks of texts, and blocks of numbers blocks of numbers. -/
structure Keeps (w w' : World) : Prop where
  txt : ∀ k n c, TxtAt w 116 k n c → TxtAt w' 116 k n c
  int : ∀ k n c, IntsAt w 3 k n c → IntsAt w' 3 k n c
theorem Keeps.refl (w : World) : Keeps w w := ⟨fun _ _ _ h => h, fun _ _ _ h => h⟩
theorem Keeps.trans {a b c : World} (h : Keeps a b) (k : Keeps b c) : Keeps a c := ⟨fun _ _ _ x => k.txt _ _ _ (h.txt _ _ _ x), fun _ _ _ x => k.int _ _ _ (h.int _ _ _ x)⟩
theorem Keeps.below {w w' : World} (h : Below w.heap.size w w') : Keeps w w' := ⟨fun _ _ _ x => x.keep (h.block _ x.lt), fun _ _ _ x => x.keep (h.block _ x.lt)⟩
theorem Keeps.other {w : World} {g j T : Nat} {cs : Array Value} {fr : Nat × Nat} (h : w.heap[g]? = some (.cells cs T fr)) (h1 : T ≠ 116) (h2 : T ≠ 3) (u : Value) : Keeps w (w.setCell ⟨g, j, none⟩ u) :=
  ⟨fun k n c x => x.keep (Below.heap_setCell _ _ _ _ (by
    show k ≠ g
    intro e; subst e
    obtain ⟨cur, e1, _⟩ := x
    rw [e1] at h; injection h with h; injection h with _ h; exact h1 h.symm)),
  fun k n c x => x.keep (Below.heap_setCell _ _ _ _ (by
    show k ≠ g
    intro e; subst e
    obtain ⟨cur, e1, _⟩ := x
    rw [e1] at h; injection h with h; injection h with _ h; exact h2 h.symm))⟩
theorem Keeps.text {w : World} {g j n c : Nat} (h : TxtAt w 116 g n c) {u : Value} (hu : IsTxt u) : Keeps w (w.setCell ⟨g, j, none⟩ u) :=
  ⟨fun k n c x => by
    by_cases e : k = g
    · subst e; exact x.set j hu
    · exact x.keep (Below.heap_setCell _ _ _ _ e),
  fun k n c x => x.keep (Below.heap_setCell _ _ _ _ (by
    show k ≠ g
    intro e; subst e
    obtain ⟨cur, e1, _⟩ := x
    obtain ⟨cur2, e2, _⟩ := h
    rw [e1] at e2; cases e2))⟩
theorem own_same {w w' : World} {B e s n g l c : Nat} {xs : List Value} (h : w.ownsRow B e s (.slice (some ⟨g, 0, none⟩) l c) n xs) (hg : w'.heap[g]? = w.heap[g]?) : w'.ownsRow B e s (.slice (some ⟨g, 0, none⟩) l c) n xs := by
  refine ⟨h.1, ?_⟩
  rcases h.2 with h0 | ⟨g', cap, cur, h1, h2, h3, h4⟩
  · exact .inl h0
  · have : g = g' := by injection h1 with h1; injection h1 with h1; injection h1
    subst this
    exact .inr ⟨g, cap, cur, h1, h2, hg.trans h3, h4⟩
/-- Node i of a tree of one's own: its list of attributes. -/
structure NodeIn (rows : List (List C)) (B m len g c i : Nat) (w : World) (a1 : Option Addr) (c1 : Nat) (xs : List Value) : Prop where
  own : w.ownsRow B 107 4 (.slice (some ⟨g, 0, none⟩) len c) len xs
  cell : w.cell? ⟨g, i * 4 + 1, none⟩ = some (.slice a1 (attLen rows i) c1)
  att : AttV (fun k => B ≤ k) w 116 (.slice a1 (attLen rows i) c1) (attLen rows i)
  names : NamesAt w a1 (attLen rows i) (nameOf (attsOf rows i))
  back : ∀ (w' : World) (g1 l' c' : Nat), Keeps w w' → w'.ownsRow B 107 4 (.slice (some ⟨g, 0, none⟩) len c) len (xs.set (i * 4 + 1) (.slice (some ⟨g1, 0, none⟩) l' c')) → B ≤ g1 → TxtAt w' 116 g1 (l' * 2) (c' * 2) → l' ≤ attLen rows i + 1 → NewTree B (m + 3) w' (.slice (some ⟨g, 0, none⟩) len c)
theorem OwnTreeW.node {rows : List (List C)} {B m len g c i : Nat} {w : World} (h : OwnTreeW rows B m len g c w) (hi : i < len) : ∃ a1 c1 xs, NodeIn rows B m len g c i w a1 c1 xs := by
  obtain ⟨xs, F, J, hR, h1, h2, h3, h4⟩ := h
  have h2' : NodesW 116 3 (fun k => B ≤ k) (fun k => B ≤ k) w len m xs := NodesW.mono (fun k hk => ⟨(h3 k hk).1.1, fun _ _ x => x⟩) (fun k hk => ⟨(h4 k hk).1.1, fun _ _ x => x⟩) _ _ _ h2
  have hxl := NodesW.length _ _ _ h2'
  obtain ⟨pre, us, post, q, n1, n2, n3, n4, n5⟩ := NodesW.at len m i xs hi h2'
  obtain ⟨tag, v1, p, v3, l1, l3, rfl, m2, m3, m4, m5, m6⟩ := n3
  obtain ⟨a1, c1, hx, hnm⟩ := hR i hi
  have hv : v1 = .slice a1 (attLen rows i) c1 := by
    rw [n1, List.getElem?_append_right (by omega), n2, show i * 4 + 1 - i * 4 = 1 from by omega] at hx
    simpa using hx
  have hl : l1 = attLen rows i := by
    rcases m4 with ⟨e, e0⟩ | ⟨g', c', e, _⟩
    · rw [e] at hv; injection hv with _ hv; omega
    · rw [e] at hv; injection hv
  subst hl
  have hcell : w.cell? ⟨g, i * 4 + 1, none⟩ = some v1 := by
    rw [h1.cellAt _ (by omega), hx, hv]
  subst hv
  refine ⟨a1, c1, xs, h1, hcell, m4, hnm, fun w' g1 l' c' hk ho hB ht hl' => ?_⟩
  have hset : xs.set (i * 4 + 1) (.slice (some ⟨g1, 0, none⟩) l' c') = pre ++ ([.string tag, .slice (some ⟨g1, 0, none⟩) l' c', .int .i64 p, v3] ++ post) := by
    rw [n1, List.set_append_right _ _ (by omega), n2, show i * 4 + 1 - i * 4 = 1 from by omega]
    simp
  -- the nodes as they stand in w', node i anew
  obtain ⟨pre', us', post', q', k1, k2, k3, k4, k5⟩ := NodesW.at len m i xs hi (NodesW.mono (F' := fun k => B ≤ k) (J' := fun k => B ≤ k) (W := w') (fun k hk' => ⟨hk', fun n c x => hk.txt k n c x⟩) (fun k hk' => ⟨hk', fun n c x => hk.int k n c x⟩) _ _ _ h2')
  obtain ⟨tag', v1', p', v3', l1', l3', rfl, o2, o3, o4, o5, o6⟩ := k3
  have hpre : pre' = pre ∧ [Value.string tag', v1', .int .i64 p', v3'] ++ post' = [Value.string tag, .slice a1 (attLen rows i) c1, .int .i64 p, v3] ++ post := by
    rw [n1] at k1
    exact List.append_inj k1.symm (by omega)
  obtain ⟨rfl, hpost⟩ := hpre
  simp only [List.cons_append, List.nil_append, List.cons.injEq, Value.string.injEq, Value.int.injEq, true_and] at hpost
  obtain ⟨rfl, rfl, rfl, rfl, rfl⟩ := hpost
  have hl1' : l1' = attLen rows i := by
    rcases o4 with ⟨e, e0⟩ | ⟨g', c', e, _⟩
    · injection e with _ e; omega
    · injection e with _ e; exact e.symm
  subst hl1'
  have n6 := k5 [.string tag', .slice (some ⟨g1, 0, none⟩) l' c', .int .i64 p', v3'] (q' + 3) ⟨tag', _, p', v3', l', l3', rfl, o2, o3, .inr ⟨g1, c', rfl, hB, ht⟩, o5, by omega⟩
  rw [← hset] at n6
  obtain ⟨rs, r1, r2, r3, r4⟩ := NodesW.flat (tab := tab) (B := B) (fun k hk => hk) (fun k hk => hk) rfl rfl _ _ _ n6
  obtain ⟨cap, hc⟩ := Rd.of_own ho r1 r2 (HtRows.lens (n := 4) rfl rs r3)
  exact ⟨len, cap, rs, hc, r3, by omega⟩
end Go.Proofs.YtomnkglnbmnmpaaGreatDoor
namespace Go.Proofs.YtomnkglnbmnmpaaGreatDoor
open Go.RowKit Go.Vt Go.Proofs
theorem NewTree.lower {B B' m m' : Nat} {w : World} {v : Value} (h : NewTree B m w v) (hB : B' ≤ B) (hm : m ≤ m') : NewTree B' m' w v := by
  obtain ⟨len, cap, rows, h1, h2, h3⟩ := h
  exact ⟨len, cap, rows, Rd.mono (Nw.lower hB) _ _ h1, h2, by omega⟩
theorem AttV.pos {F : Nat → Prop} {w : World} {a1 : Option Addr} {l c1 : Nat} (h : AttV F w 116 (.slice a1 l c1) l) (hl : 0 < l) : ∃ g1, a1 = some ⟨g1, 0, none⟩ ∧ F g1 ∧ TxtAt w 116 g1 (l * 2) (c1 * 2) := by
  rcases h with ⟨_, h⟩ | ⟨g1, c, h, hF, hi⟩
  · omega
  · injection h with h1 h2 h3
    subst h3
    exact ⟨g1, h1, hF, hi⟩
theorem own_block {w : World} {B e s n g l c : Nat} {xs : List Value} (h : w.ownsRow B e s (.slice (some ⟨g, 0, none⟩) l c) n xs) : B ≤ g ∧ ∃ cur, w.heap[g]? = some (.cells cur e (0, 0)) := by
  rcases h.2 with ⟨h0, _⟩ | ⟨g', cap, cur, h1, h2, h3, h4⟩
  · cases h0
  · have : g = g' := by injection h1 with h1; injection h1 with h1; injection h1
    subst this
    exact ⟨h2, cur, h3⟩
theorem txt_ne {w : World} {g g1 T n c : Nat} {cur : Array Value} {fz : Nat × Nat} (h : w.heap[g]? = some (.cells cur T fz)) (hT : T ≠ 116) (h1 : TxtAt w 116 g1 n c) : g1 ≠ g := fun e => by
  subst e
  obtain ⟨cur2, e2, _⟩ := h1
  rw [e2] at h
  injection h with h
  injection h with _ h
  exact hT h.symm
theorem set_same {α : Type} {l : List α} {j : Nat} {v : α} (h : l[j]? = some v) : l.set j v = l := by
  apply List.ext_getElem?
  intro k
  by_cases e : j = k
  · subst e; rw [List.getElem?_set_self (List.getElem?_eq_some_iff.1 h).1, h]
  · rw [List.getElem?_set_ne e]
/-- The last two stores: a text into the node's list, and the tree into its cell. -/
theorem set_fin {rows : List (List C)} {B m len g c i y g1 l' c' j : Nat} {w5 w8 : World} {a1 : Option Addr} {c1 : Nat} {xs : List Value} {vl : ByteArray} {u : Value} (hN : NodeIn rows B m len g c i w5 a1 c1 xs) (hk : Keeps w5 w8)
    (ho : w8.ownsRow B 107 4 (.slice (some ⟨g, 0, none⟩) len c) len (xs.set (i * 4 + 1) (.slice (some ⟨g1, 0, none⟩) l' c'))) (hy : w8.heap[y]? = some (.cells #[u] 24 (0, 0))) (ht : TxtAt w8 116 g1 (l' * 2) (c' * 2)) (hB : B ≤ g1) (hl : l' ≤ attLen rows i + 1) (hvl : vl.size ≤ strMax) :
    NewTree B (m + 3) ((w8.setCell ⟨g1, j, none⟩ (.string vl)).setCell ⟨y, 0, none⟩ (.slice (some ⟨g, 0, none⟩) len c)) (.slice (some ⟨g, 0, none⟩) len c) ∧ ((w8.setCell ⟨g1, j, none⟩ (.string vl)).setCell ⟨y, 0, none⟩ (.slice (some ⟨g, 0, none⟩) len c)).cell? ⟨y, 0, none⟩ = some (.slice (some ⟨g, 0, none⟩) len c) := by
  obtain ⟨_, cur, hc⟩ := own_block ho
  have n1 : g1 ≠ g := txt_ne hc (by decide) ht
  have n2 : g1 ≠ y := txt_ne hy (by decide) ht
  have n3 : g ≠ y := fun e => by
    subst e; rw [hc] at hy; cases hy
  have hy9 : (w8.setCell ⟨g1, j, none⟩ (.string vl)).heap[y]? = some (.cells #[u] 24 (0, 0)) := (Below.heap_setCell _ _ _ _ (by show y ≠ g1; exact fun e => n2 e.symm)).trans hy
  have k9 : Keeps w8 (w8.setCell ⟨g1, j, none⟩ (.string vl)) := Keeps.text ht ⟨vl, rfl, hvl⟩
  have k10 := Keeps.other (j := 0) hy9 (by decide) (by decide) (.slice (some ⟨g, 0, none⟩) len c)
  have hk10 := (hk.trans k9).trans k10
  refine ⟨hN.back _ g1 l' c' hk10 ?_ hB ((k9.trans k10).txt _ _ _ ht) hl, cell_of_row _ _ 0 _ _ _ (setCell_one hy9)⟩
  exact own_same ho ((Below.heap_setCell _ _ _ _ (by show g ≠ y; exact n3)).trans (Below.heap_setCell _ _ _ _ (by show g ≠ g1; exact fun e => n1 e.symm)))
/-- The last store: the tree into its cell. -/
theorem cell_fin {rows : List (List C)} {B m len g c i y g1 l' c' : Nat} {w5 w9 : World} {a1 : Option Addr} {c1 : Nat} {xs : List Value} {u : Value} (hN : NodeIn rows B m len g c i w5 a1 c1 xs) (hk : Keeps w5 w9)
    (ho : w9.ownsRow B 107 4 (.slice (some ⟨g, 0, none⟩) len c) len (xs.set (i * 4 + 1) (.slice (some ⟨g1, 0, none⟩) l' c'))) (hy : w9.heap[y]? = some (.cells #[u] 24 (0, 0))) (ht : TxtAt w9 116 g1 (l' * 2) (c' * 2)) (hB : B ≤ g1) (hl : l' ≤ attLen rows i + 1) :
    NewTree B (m + 3) (w9.setCell ⟨y, 0, none⟩ (.slice (some ⟨g, 0, none⟩) len c)) (.slice (some ⟨g, 0, none⟩) len c) ∧ (w9.setCell ⟨y, 0, none⟩ (.slice (some ⟨g, 0, none⟩) len c)).cell? ⟨y, 0, none⟩ = some (.slice (some ⟨g, 0, none⟩) len c) := by
  obtain ⟨_, cur, hc⟩ := own_block ho
  have n3 : g ≠ y := fun e => by
    subst e; rw [hc] at hy; cases hy
  have k10 := Keeps.other (j := 0) hy (by decide) (by decide) (.slice (some ⟨g, 0, none⟩) len c)
  exact ⟨hN.back _ g1 l' c' (hk.trans k10) (own_same ho (Below.heap_setCell _ _ _ _ (by show g ≠ y; exact n3))) hB (k10.txt _ _ _ ht) hl, cell_of_row _ _ 0 _ _ _ (setCell_one hy)⟩
set_option maxRecDepth 100000 in
set_option maxHeartbeats 4000000 in
/-- attrs.Set. -/
theorem set_ok (F : Nat → Prop) (w : World) (a : Option Addr) (x : Int) (nm vl : ByteArray) (len cap : Nat) (rows : List (List C)) (hr : Rd F w (.sl 4 len cap rows) (.slice a len cap)) (ht : HtRows tab [.str, .sl 116, .int .i64, .sl 3] rows) (hF : ∀ k, F k → k < w.heap.size) (hnn : nodesRows rows ≤ 900000000000) (hnm : nm.size ≤ strMax) (hvl : vl.size ≤ strMax) :
    Calls Tryz.prog 27 #[.agg #[.slice a len cap], .int .i64 x, .string nm, .string vl] w fun e w' => PutP w.heap.size (nodesRows rows + 100) e w' ∧ Below w.heap.size w w' := by
  obtain ⟨a0, b, o, ha0, h2, h3⟩ := row_at hr hF
  obtain rfl : a = a0 := by injection ha0 with ha0
  obtain ⟨W0, hW0⟩ : ∃ W, W = (w.alloc (Obj.cells #[.slice a len cap] 24)).alloc (Obj.cells #[.slice none 0 0] 24) := ⟨_, rfl⟩
  have s0 : W0.heap.size = w.heap.size + 2 := by rw [hW0, alloc_size, alloc_size]
  have b0 : Below w.heap.size w W0 := by rw [hW0]; exact ((Below.refl _ _).alloc (Nat.le_refl _) _).alloc (by rw [alloc_size]; omega) _
  have x0 : W0.heap[w.heap.size]? = some (.cells #[.slice a len cap] 24 (0, 0)) := by rw [hW0]; exact (Below.heap_alloc _ _ _ (by rw [alloc_size]; omega)).trans (heap_alloc_new w _)
  have y0 : W0.heap[w.heap.size + 1]? = some (.cells #[.slice none 0 0] 24 (0, 0)) := by
    rw [hW0]; have := heap_alloc_new (w.alloc (Obj.cells #[.slice a len cap] 24)) (Obj.cells #[.slice none 0 0] 24); rwa [alloc_size] at this
  have hc := acheck_ok F W0 a x len cap rows (Rd.mono (fun k hk => ⟨hk, b0.block k (hF k hk)⟩) _ _ hr) ht (fun k hk => by have := hF k hk; omega) (by omega)
  have c0 : W0.cell? ⟨w.heap.size, 0, none⟩ = some (.slice a len cap) := cell_of_row _ _ 0 _ _ _ x0
  have HC := Lib.hid hc
  have HW := Lib.hid hW0
  have HR := Lib.hid hr
  have HT := Lib.hid ht
  have HF := Lib.hid hF
  have H3 := Lib.hid h3
  have HB0 := Lib.hid b0
  have HX := Lib.hid (And.intro x0 (And.intro y0 s0))
  clear hc hr ht hF b0 x0 y0 s0 hW0 h3 ha0
  go_enter Tryz.func27, Tryz.ntmps27
  go_wp2_with fail
  rw [← HW.out]
  go_wp2_with fail
  refine HC.out.mono ?_
  rintro e w1 ⟨⟨n, rfl, hn⟩, hb1⟩
  have hb := HB0.out.trans (hb1.mono HB0.out.size)
  have x1 : w1.heap[w.heap.size]? = some (.cells #[.slice a len cap] 24 (0, 0)) := (hb1.block _ (by have := HX.out.2.2; omega)).trans HX.out.1
  have y1 : w1.heap[w.heap.size + 1]? = some (.cells #[.slice none 0 0] 24 (0, 0)) := (hb1.block _ (by have := HX.out.2.2; omega)).trans HX.out.2.1
  have s1 : w.heap.size + 1 + 1 ≤ w1.heap.size := by have := HX.out.2.2; have := hb1.size; omega
  have ca : w1.cell? ⟨w.heap.size, 0, none⟩ = some (.slice a len cap) := cell_of_row _ _ 0 _ _ _ x1
  have cr : w1.cell? ⟨w.heap.size + 1, 0, none⟩ = some (.slice none 0 0) := cell_of_row _ _ 0 _ _ _ y1
  have fr : w1.frozen? ⟨w.heap.size + 1, 0, none⟩ = false := by simp [World.frozen?, y1]
  have e0 : (w1.setCell ⟨w.heap.size + 1, 0, none⟩ (.slice none 0 0)).cell? ⟨w.heap.size + 1, 0, none⟩ = some (.slice none 0 0) := cell_of_row _ _ 0 _ _ _ (setCell_one y1)
  have hE := hb.setCell (p := ⟨w.heap.size + 1, 0, none⟩) (by simp) (.slice none 0 0)
  have HB := Lib.hid hb
  have HE := Lib.hid (And.intro e0 hE)
  have HY := Lib.hid (And.intro x1 (And.intro y1 s1))
  have HN := Lib.hid hn
  clear c0 HW HC hb1 HB0 hb x1 y1 e0 hE HX hn
  by_cases hn0 : n = 0
  case neg =>
    have hm1 : (n != 0) = true := by simp [hn0]
    go_wp2_with fail
    refine bodyPost_ret (v := .tuple #[.agg #[.slice none 0 0], .int .i64 n]) (by simp [results, Tryz.results27, go_sem, HE.out.1]) rfl ⟨⟨_, n, rfl, tree_none⟩, HE.out.2⟩
  case pos =>
  subst hn0
  obtain ⟨hG, hx1, hx2⟩ := HN.out (by first | trivial | rfl)
  obtain ⟨xn, rfl⟩ := Int.eq_ofNat_of_zero_le hx1
  have hl1 := hG.l1
  have hl2 := hG.l2
  clear hG HE
  go_wp2_with fail
  refine (new2_ok w1 nm).mono ?_
  rintro e w2 ⟨⟨a2, l2, c2, n2, rfl⟩, hb2⟩
  have hb3 := HB.out.trans (hb2.mono HB.out.size)
  have x2 : w2.heap[w.heap.size]? = some (.cells #[.slice a len cap] 24 (0, 0)) := (hb2.block _ (by omega)).trans HY.out.1
  have y2 : w2.heap[w.heap.size + 1]? = some (.cells #[.slice none 0 0] 24 (0, 0)) := (hb2.block _ (by omega)).trans HY.out.2.1
  have s2 : w.heap.size + 1 + 1 ≤ w2.heap.size := by have := hb2.size; omega
  obtain ⟨W3, hW3⟩ : ∃ W, W = w2.alloc (Obj.cells #[.slice a2 l2 c2] 24) := ⟨_, rfl⟩
  have b3 : Below w.heap.size w W3 := by rw [hW3]; exact hb3.alloc hb3.size _
  have x3 : W3.heap[w.heap.size]? = some (.cells #[.slice a len cap] 24 (0, 0)) := by rw [hW3]; exact (Below.heap_alloc _ _ _ (by omega)).trans x2
  have y3 : W3.heap[w.heap.size + 1]? = some (.cells #[.slice none 0 0] 24 (0, 0)) := by rw [hW3]; exact (Below.heap_alloc _ _ _ (by omega)).trans y2
  have s3 : w.heap.size + 1 + 1 ≤ W3.heap.size := by rw [hW3, alloc_size]; omega
  have cr3 : ∀ X, (w2.alloc X).cell? ⟨w.heap.size + 1, 0, none⟩ = some (.slice none 0 0) := fun X => cell_of_row _ _ 0 _ _ _ ((Below.heap_alloc _ _ _ (by omega)).trans y2)
  have fr3 : ∀ X, (w2.alloc X).frozen? ⟨w.heap.size + 1, 0, none⟩ = false := fun X => by simp [World.frozen?, (Below.heap_alloc w2 X (w.heap.size + 1) (by omega)).trans y2]
  have ca3 : ∀ X, (w2.alloc X).cell? ⟨w.heap.size, 0, none⟩ = some (.slice a len cap) := fun X => cell_of_row _ _ 0 _ _ _ ((Below.heap_alloc _ _ _ (by omega)).trans x2)
  have e3 : (W3.setCell ⟨w.heap.size + 1, 0, none⟩ (.slice none 0 0)).cell? ⟨w.heap.size + 1, 0, none⟩ = some (.slice none 0 0) := cell_of_row _ _ 0 _ _ _ (setCell_one y3)
  have hE3 := b3.setCell (p := ⟨w.heap.size + 1, 0, none⟩) (by simp) (.slice none 0 0)
  -- the attributes of the node, as they were
  have hrk : rows[xn]? = some (rows[xn]'(by omega)) := List.getElem?_eq_getElem _
  generalize rows[xn]'(by omega) = rk at hrk
  obtain ⟨rfl, _, hbl, hrd⟩ := H3.out xn rk hrk
  obtain ⟨_, at_, lat, kat, ats, _, _, _, _, _, rfl, hra, hta, _, _, _, n1, _, _⟩ := node_at hrk HT.out hrd
  have hla := attrs_le hrk hra (by omega)
  have hal : attLen rows xn = lat := by simp only [attLen, hrk]
  have q3 : ∀ X, (w2.alloc X).cell? ⟨b, o + xn * 4 + 1, none⟩ = some (.slice at_ lat kat) := fun X => ((hb3.alloc hb3.size X).cell (p := ⟨b, o + xn * 4 + 1, none⟩) hbl).trans n1
  have hf := find_ok F W3 (.slice at_ lat kat) nm lat kat ats (Rd.mono (fun k hk => ⟨hk, b3.block k (HF.out k hk)⟩) _ _ hra) hta (fun k hk => Nat.lt_of_lt_of_le (HF.out k hk) b3.size) hla
  have HFD := Lib.hid hf
  have HW3 := Lib.hid hW3
  have HB3 := Lib.hid (And.intro b3 (And.intro x3 (And.intro y3 n1)))
  have HE3 := Lib.hid (And.intro e3 hE3)
  have HAL := Lib.hid hal
  clear hf hrk hrd hra hta n1 b3 x3 y3 e3 hE3 hb2 hb3 x2 y2 ca cr fr hW3 hal
  by_cases hn2 : n2 = 0
  case neg =>
    have hm1 : (n2 != 0) = true := by simp [hn2]
    go_wp2_with fail
    rw [← HW3.out]
    refine bodyPost_ret (v := .tuple #[.agg #[.slice none 0 0], .int .i64 2]) (by simp [results, Tryz.results27, go_sem, HE3.out.1]) rfl ⟨⟨_, 2, rfl, tree_none⟩, HE3.out.2⟩
  case pos =>
  subst hn2
  by_cases h400 : 400 < vl.size
  case pos =>
    have hm1 : (400 : Int) < (vl.size : Int) := by omega
    go_wp2_with fail
    rw [← HW3.out]
    refine bodyPost_ret (v := .tuple #[.agg #[.slice none 0 0], .int .i64 28]) (by simp [results, Tryz.results27, go_sem, HE3.out.1]) rfl ⟨⟨_, 28, rfl, tree_none⟩, HE3.out.2⟩
  case neg =>
  have hm4 : decide ((400 : Int) < (vl.size : Int)) = false := by simp; omega
  go_wp2_with fail
  rw [← HW3.out]
  refine HFD.out.mono ?_
  rintro e w4 ⟨⟨k, fd, rfl, hk1, hk2⟩, hb4⟩
  obtain ⟨b3, x3, y3, n1⟩ := HB3.out
  have b4 := b3.trans (hb4.mono b3.size)
  have x4 : w4.heap[w.heap.size]? = some (.cells #[.slice (some ⟨b, o, none⟩) len cap] 24 (0, 0)) := (hb4.block _ (by omega)).trans x3
  have y4 : w4.heap[w.heap.size + 1]? = some (.cells #[.slice none 0 0] 24 (0, 0)) := (hb4.block _ (by omega)).trans y3
  have s4 : w.heap.size + 1 + 1 ≤ w4.heap.size := by have := hb4.size; omega
  have ca4 : w4.cell? ⟨w.heap.size, 0, none⟩ = some (.slice (some ⟨b, o, none⟩) len cap) := cell_of_row _ _ 0 _ _ _ x4
  have cr4 : w4.cell? ⟨w.heap.size + 1, 0, none⟩ = some (.slice none 0 0) := cell_of_row _ _ 0 _ _ _ y4
  have fr4 : w4.frozen? ⟨w.heap.size + 1, 0, none⟩ = false := by simp [World.frozen?, y4]
  have q4 := (b4.cell (p := ⟨b, o + xn * 4 + 1, none⟩) hbl).trans n1
  have e4 : (w4.setCell ⟨w.heap.size + 1, 0, none⟩ (.slice none 0 0)).cell? ⟨w.heap.size + 1, 0, none⟩ = some (.slice none 0 0) := cell_of_row _ _ 0 _ _ _ (setCell_one y4)
  have hE4 := b4.setCell (p := ⟨w.heap.size + 1, 0, none⟩) (by simp) (.slice none 0 0)
  have ht := twin_ok F w4 (some ⟨b, o, none⟩) len cap rows (Rd.mono (fun k hk => ⟨hk, b4.block k (HF.out k hk)⟩) _ _ HR.out) HT.out (fun k hk => Nat.lt_of_lt_of_le (HF.out k hk) b4.size) (by omega) (by omega) hl2
  -- what holds behind the copy: y's own block stands, the node's list lies in new memory
  have after : ∀ (w5 : World) (g c : Nat), OwnTreeW rows w4.heap.size (nodesRows rows + 64) len g c w5 → Below w4.heap.size w4 w5 → ∃ a1 c1 xs, NodeIn rows w4.heap.size (nodesRows rows + 64) len g c xn w5 a1 c1 xs ∧ w5.heap[w.heap.size + 1]? = some (.cells #[.slice none 0 0] 24 (0, 0)) ∧ w.heap.size + 1 < g ∧ g < w5.heap.size := by
    intro w5 g c hT hb5
    obtain ⟨a1, c1, xs, hN⟩ := hT.node (i := xn) (by omega)
    obtain ⟨o1, cur, o2⟩ := own_block hN.own
    exact ⟨a1, c1, xs, hN, (hb5.block _ (by omega)).trans y4, by omega, (Array.getElem?_eq_some_iff.1 o2).1⟩
  have HT4 := Lib.hid ht
  have HA4 := Lib.hid after
  have HB4 := Lib.hid b4
  have HE4 := Lib.hid (And.intro e4 hE4)
  clear ht after b4 x4 y4 e4 hE4 hb4 b3 x3 y3 n1 ca3 cr3 fr3 q3
  cases fd with
  | false =>
    by_cases h16 : lat = 16
    case pos =>
      have hm5 : ((lat : Int) == 16) = true := by subst h16; rfl
      go_wp2_with fail
      refine bodyPost_ret (v := .tuple #[.agg #[.slice none 0 0], .int .i64 18]) (by simp [results, Tryz.results27, go_sem, HE4.out.1]) rfl ⟨⟨_, 18, rfl, tree_none⟩, HE4.out.2⟩
    case neg =>
    have hm5 : ((lat : Int) == 16) = false := by simp; omega
    go_wp2_with fail
    refine HT4.out.mono ?_
    rintro e w5 ⟨⟨g, c, rfl, hT⟩, hb5⟩
    obtain ⟨a1, c1, xs, hN, y5, hg0, hg5⟩ := HA4.out w5 g c hT hb5
    have hc5 := hN.cell
    have hat := hN.att
    have hal := HAL.out
    rw [hal] at hc5 hat
    have q5 : ∀ X Y, ((w5.alloc X).alloc Y).cell? ⟨g, xn * 4 + 1, none⟩ = some (.slice a1 lat c1) := fun X Y => by
      rw [World.cell?_of_block (w := w5) (a := ⟨g, xn * 4 + 1, none⟩) ((Below.heap_alloc _ _ _ (by rw [alloc_size]; show g < _; omega)).trans (Below.heap_alloc _ _ _ hg5))]; exact hc5
    have q5' : ∀ X, (w5.alloc X).cell? ⟨g, xn * 4 + 1, none⟩ = some (.slice a1 lat c1) := fun X => by
      rw [World.cell?_of_block (w := w5) (a := ⟨g, xn * 4 + 1, none⟩) (Below.heap_alloc _ _ _ hg5)]; exact hc5
    obtain ⟨W7, hW7⟩ : ∃ W, W = (w5.alloc (Obj.cells #[.slice (some ⟨g, 0, none⟩) len c] 24)).alloc (Obj.cells #[.string nm, .string ⟨#[]⟩] 116) := ⟨_, rfl⟩
    have s7 : W7.heap.size = w5.heap.size + 2 := by rw [hW7, alloc_size, alloc_size]
    have b57 : Below w5.heap.size w5 W7 := by rw [hW7]; exact ((Below.refl _ _).alloc (Nat.le_refl _) _).alloc (by rw [alloc_size]; omega) _
    have p7 : W7.heap[w5.heap.size]? = some (.cells #[.slice (some ⟨g, 0, none⟩) len c] 24 (0, 0)) := by rw [hW7]; exact (Below.heap_alloc _ _ _ (by rw [alloc_size]; omega)).trans (heap_alloc_new w5 _)
    have r7 : W7.heap[w5.heap.size + 1]? = some (.cells #[.string nm, .string ⟨#[]⟩] 116 (0, 0)) := by
      rw [hW7]; have := heap_alloc_new (w5.alloc (Obj.cells #[.slice (some ⟨g, 0, none⟩) len c] 24)) (Obj.cells #[.string nm, .string ⟨#[]⟩] 116); rwa [alloc_size] at this
    have hsz5 := hb5.size
    have hins := insert_atts W7 (.slice a1 lat c1) w4.heap.size lat (if lat = 0 ∧ a1 = none then 0 else c1) (w5.heap.size + 1) k nm (by
      rcases hat with ⟨e1, e2⟩ | ⟨g1, c', e1, e2, e3⟩
      · injection e1 with e1 e3 e4
        subst e1 e4
        exact .inl ⟨by rw [e2], e2, by simp [e2]⟩
      · injection e1 with e1 _ e4
        subst e1 e4
        refine .inr ⟨g1, by simp, e2, by have := e3.lt; omega, ?_⟩
        rw [if_neg (by simp)]
        exact e3.keep (b57.block _ e3.lt)) hk1 (by omega) r7 hnm hla
    have HI := Lib.hid hins
    have HW7 := Lib.hid hW7
    have HH := Lib.hid (And.intro hT (And.intro hb5 (And.intro hN (And.intro y5 (And.intro b57 (And.intro p7 hat))))))
    have HS := Lib.hid (And.intro s7 hsz5)
    clear hins hW7 hT hb5 hN y5 b57 p7 r7 hat hc5 s7 hsz5 hal ca4 cr4 fr4 q4
    go_wp2_with fail
    rw [← HW7.out]
    refine HI.out.mono ?_
    rintro e w8 ⟨g1, c', rfl, hg1, ht1, hb8, hk8, hh8⟩
    obtain ⟨hT, hb5, hN, y5, b57, p7, hat⟩ := HH.out
    obtain ⟨s7, hsz5⟩ := HS.out
    obtain ⟨_, cur, hcur⟩ := own_block hN.own
    have hvne : ∀ j, (∃ cs T fz, W7.heap[j]? = some (.cells cs T fz) ∧ T ≠ 116) → Value.slice a1 lat c1 ≠ .slice (some ⟨j, 0, none⟩) lat (if lat = 0 ∧ a1 = none then 0 else c1) := fun j ⟨cs, T, fz, e1, e2⟩ e3 => by
      rcases hat with ⟨e4, _⟩ | ⟨g2, c2, e4, e5, e6⟩
      · rw [e4] at e3; injection e3 with e3; cases e3
      · rw [e4] at e3
        injection e3 with e3
        injection e3 with e3
        injection e3 with e3
        subst e3
        exact txt_ne e1 e2 (e6.keep (b57.block _ e6.lt)) rfl
    have hg7 : W7.heap[g]? = some (.cells cur 107 (0, 0)) := (b57.block _ hg5).trans hcur
    have hg8 : w8.heap[g]? = w5.heap[g]? := (hh8 g (by omega) (hvne g ⟨_, _, _, hg7, by decide⟩)).trans (b57.block _ hg5)
    have hp8 : w8.heap[w5.heap.size]? = some (.cells #[.slice (some ⟨g, 0, none⟩) len c] 24 (0, 0)) := (hh8 _ (by omega) (hvne _ ⟨_, _, _, p7, by decide⟩)).trans p7
    have hy7 : W7.heap[w.heap.size + 1]? = some (.cells #[.slice none 0 0] 24 (0, 0)) := (b57.block _ (by omega)).trans y5
    have hy8 : w8.heap[w.heap.size + 1]? = some (.cells #[.slice none 0 0] 24 (0, 0)) := (hh8 _ (by omega) (hvne _ ⟨_, _, _, hy7, by decide⟩)).trans hy7
    have hgc8 : w8.heap[g]? = some (.cells cur 107 (0, 0)) := hg8.trans hcur
    have n1 : g1 ≠ g := txt_ne hgc8 (by decide) ht1
    have n2 : g ≠ g1 := fun e => n1 e.symm
    have n3 : w5.heap.size ≠ g := by omega
    have n4 : g ≠ w5.heap.size := by omega
    have n5 : w5.heap.size ≠ g1 := fun e => txt_ne hp8 (by decide) ht1 e.symm
    have n6 : g1 ≠ w5.heap.size := fun e => n5 e.symm
    have n7 : w.heap.size + 1 ≠ g := by omega
    have n8 : w.heap.size + 1 ≠ g1 := fun e => txt_ne hy8 (by decide) ht1 e.symm
    have n9 : w.heap.size + 1 ≠ w5.heap.size := by omega
    obtain ⟨s4', hs4, _⟩ := ht1.cell (show k * 2 + 1 < (lat + 1) * 2 by omega)
    have z1 : w8.cell? ⟨g, xn * 4 + 1, none⟩ = some (.slice a1 lat c1) := by
      rw [World.cell?_of_block (w := w5) (a := ⟨g, xn * 4 + 1, none⟩) hg8]; have := hN.cell; rwa [HAL.out] at this
    have z2 : w8.frozen? ⟨g, xn * 4 + 1, none⟩ = false := by simp [World.frozen?, hgc8]
    have z3 : w8.frozen? ⟨g1, k * 2 + 1, none⟩ = false := ht1.frozen _
    have z4 : w8.cell? ⟨w5.heap.size, 0, none⟩ = some (.slice (some ⟨g, 0, none⟩) len c) := cell_of_row _ _ 0 _ _ _ hp8
    have z5 : w8.cell? ⟨w.heap.size + 1, 0, none⟩ = some (.slice none 0 0) := cell_of_row _ _ 0 _ _ _ hy8
    have z6 : w8.frozen? ⟨w.heap.size + 1, 0, none⟩ = false := by simp [World.frozen?, hy8]
    have hkl : k < lat + 1 := by omega
    have z7 : (w8.setCell ⟨g, xn * 4 + 1, none⟩ (.slice (some ⟨g1, 0, none⟩) (lat + 1) c')).cell? ⟨g, xn * 4 + 1, none⟩ = some (.slice (some ⟨g1, 0, none⟩) (lat + 1) c') := by
      obtain ⟨u1, u2⟩ : ∃ (u1 : xn * 4 + 1 < cur.size), True := by
        rw [cell_of_row _ _ _ _ _ _ hgc8] at z1
        exact ⟨(Array.getElem?_eq_some_iff.1 z1).1, trivial⟩
      rw [cell_of_row _ _ _ _ _ _ (setCell_at hgc8), Array.getElem?_setIfInBounds_self_of_lt u1]
    have HZ := Lib.hid (And.intro hgc8 (And.intro hp8 (And.intro hy8 (And.intro ht1 (And.intro hb8 (And.intro hk8 (And.intro hh8 hg8)))))))
    have HV := Lib.hid hvne
    have HG1 := Lib.hid hg1
    clear hT hb5 hN y5 b57 p7 hat hcur hvne hg7 hg8 hp8 hy7 hy8 hgc8 ht1 hb8 hk8 hh8 hg1 q5 q5'
    go_wp2_with fail
    obtain ⟨hgc8, hp8, hy8, ht1, hb8, hk8, hh8, hg8⟩ := HZ.out
    obtain ⟨hT, hb5, hN, y5, b57, p7, hat⟩ := HH.out
    obtain ⟨s7, hsz5⟩ := HS.out
    have kk : Keeps w5 w8 := (Keeps.below b57).trans ⟨hk8, fun k n c h => h.keep (hh8 k h.lt (HV.out k (by obtain ⟨cur, e, _⟩ := h; exact ⟨_, _, _, e, by decide⟩)))⟩
    have o8 := (own_same hN.own hg8).stored (xn * 4 + 1) (.slice (some ⟨g1, 0, none⟩) (lat + 1) c')
    have hy8' : (w8.setCell ⟨g, xn * 4 + 1, none⟩ (.slice (some ⟨g1, 0, none⟩) (lat + 1) c')).heap[w.heap.size + 1]? = some (.cells #[.slice none 0 0] 24 (0, 0)) := (Below.heap_setCell _ _ _ _ (by show w.heap.size + 1 ≠ g; exact n7)).trans hy8
    have ko := Keeps.other (j := xn * 4 + 1) hgc8 (by decide) (by decide) (.slice (some ⟨g1, 0, none⟩) (lat + 1) c')
    have hfin := set_fin (j := k * 2 + 1) (vl := vl) hN (kk.trans ko) o8.1 hy8' (ko.txt _ _ _ ht1) HG1.out (by rw [HAL.out]; omega) hvl
    have hbW : Below w.heap.size w w8 := ((HB4.out.trans (hb5.mono HB4.out.size)).trans (b57.mono (by omega))).trans (hb8.mono (by omega))
    refine bodyPost_ret (v := .tuple #[.agg #[.slice (some ⟨g, 0, none⟩) len c], .int .i64 0]) (by simp [results, Tryz.results27, go_sem, hfin.2]) rfl ⟨⟨_, 0, rfl, hfin.1.lower (by omega) (by omega)⟩, ?_⟩
    exact ((hbW.setCell (by show w.heap.size ≤ g; omega) _).setCell (by show w.heap.size ≤ g1; have := HG1.out; omega) _).setCell (by show w.heap.size ≤ w.heap.size + 1; omega) _
  | true =>
    have hkl : k < lat := hk2 (by first | trivial | rfl)
    go_wp2_with fail
    refine HT4.out.mono ?_
    rintro e w5 ⟨⟨g, c, rfl, hT⟩, hb5⟩
    obtain ⟨a1, c1, xs, hN, y5, hg0, hg5⟩ := HA4.out w5 g c hT hb5
    have hc5 := hN.cell
    have hat := hN.att
    rw [HAL.out] at hc5 hat
    obtain ⟨g1, rfl, hg1, ht1⟩ := AttV.pos hat (by omega)
    obtain ⟨_, cur, hcur⟩ := own_block hN.own
    have hg1l := ht1.lt
    obtain ⟨s4', hs4, _⟩ := ht1.cell (show k * 2 + 1 < lat * 2 by omega)
    have hfz := ht1.frozen (k * 2 + 1)
    have n1 : g1 ≠ g := txt_ne hcur (by decide) ht1
    have n5 : w5.heap.size ≠ g1 := by omega
    have n6 : g1 ≠ w5.heap.size := by omega
    have n8 : w.heap.size + 1 ≠ g1 := fun e => txt_ne y5 (by decide) ht1 e.symm
    have n9 : w.heap.size + 1 ≠ w5.heap.size := by omega
    have q5 : ∀ X, (w5.alloc X).cell? ⟨g, xn * 4 + 1, none⟩ = some (.slice (some ⟨g1, 0, none⟩) lat c1) := fun X => by
      rw [World.cell?_of_block (w := w5) (a := ⟨g, xn * 4 + 1, none⟩) (Below.heap_alloc _ _ _ hg5)]; exact hc5
    have z1 : ∀ X, (w5.alloc X).cell? ⟨g1, k * 2 + 1, none⟩ = some (.string s4') := fun X => by
      rw [World.cell?_of_block (w := w5) (a := ⟨g1, k * 2 + 1, none⟩) (Below.heap_alloc _ _ _ hg1l)]; exact hs4
    have z2 : ∀ X, (w5.alloc X).frozen? ⟨g1, k * 2 + 1, none⟩ = false := fun X => by
      obtain ⟨cur2, e, _⟩ := ht1
      simp [World.frozen?, (Below.heap_alloc w5 X g1 hg1l).trans e]
    have z5 : ∀ X, (w5.alloc X).cell? ⟨w.heap.size + 1, 0, none⟩ = some (.slice none 0 0) := fun X => cell_of_row _ _ 0 _ _ _ ((Below.heap_alloc _ _ _ (by omega)).trans y5)
    have z6 : ∀ X, (w5.alloc X).frozen? ⟨w.heap.size + 1, 0, none⟩ = false := fun X => by simp [World.frozen?, (Below.heap_alloc w5 X (w.heap.size + 1) (by omega)).trans y5]
    obtain ⟨W9, hW9⟩ : ∃ W, W = (w5.setCell ⟨g1, k * 2 + 1, none⟩ (.string vl)).alloc (Obj.cells #[.slice (some ⟨g, 0, none⟩) len c] 24) := ⟨_, rfl⟩
    have k8 : Keeps w5 (w5.setCell ⟨g1, k * 2 + 1, none⟩ (.string vl)) := Keeps.text ht1 ⟨vl, rfl, hvl⟩
    have b9 : Below (w5.setCell ⟨g1, k * 2 + 1, none⟩ (.string vl)).heap.size (w5.setCell ⟨g1, k * 2 + 1, none⟩ (.string vl)) W9 := by rw [hW9]; exact (Below.refl _ _).alloc (Nat.le_refl _) _
    have k9 : Keeps w5 W9 := k8.trans (Keeps.below b9)
    have h89 : ∀ j, j ≠ g1 → j < w5.heap.size → W9.heap[j]? = w5.heap[j]? := fun j e1 e2 => (b9.block j (by rw [setCell_size]; exact e2)).trans (Below.heap_setCell _ _ _ _ e1)
    have y9 : W9.heap[w.heap.size + 1]? = some (.cells #[.slice none 0 0] 24 (0, 0)) := (h89 _ n8 (by omega)).trans y5
    have z7 : ((w5.setCell ⟨g1, k * 2 + 1, none⟩ (.string vl)).alloc (Obj.cells #[.slice (some ⟨g, 0, none⟩) len c] 24)).cell? ⟨w.heap.size + 1, 0, none⟩ = some (.slice none 0 0) := by rw [← hW9]; exact cell_of_row _ _ 0 _ _ _ y9
    have z8 : ((w5.setCell ⟨g1, k * 2 + 1, none⟩ (.string vl)).alloc (Obj.cells #[.slice (some ⟨g, 0, none⟩) len c] 24)).frozen? ⟨w.heap.size + 1, 0, none⟩ = false := by rw [← hW9]; simp [World.frozen?, y9]
    have o9 : W9.ownsRow w4.heap.size 107 4 (.slice (some ⟨g, 0, none⟩) len c) len xs := own_same hN.own (h89 g n1.symm hg5)
    have hsz5 := hb5.size
    have hbW : Below w.heap.size w W9 := ((HB4.out.trans (hb5.mono HB4.out.size)).setCell (p := ⟨g1, k * 2 + 1, none⟩) (by show w.heap.size ≤ g1; omega) (.string vl)).trans (b9.mono (by rw [setCell_size]; omega))
    have HW9 := Lib.hid hW9
    have HO9 := Lib.hid (And.intro k9 (And.intro y9 (And.intro o9 hbW)))
    have HH := Lib.hid (And.intro hb5 (And.intro hN (And.intro y5 (And.intro ht1 (And.intro hg1 hc5)))))
    clear hT hb5 hN y5 hat ht1 hc5 hcur hs4 hfz ca4 cr4 fr4 q4 hW9 k8 b9 k9 h89 y9 o9 hbW
    go_wp2_with fail
    rw [← HW9.out]
    obtain ⟨hb5, hN, y5, ht1, hg1, hc5⟩ := HH.out
    obtain ⟨k9, y9, o9, hbW⟩ := HO9.out
    have hx : xs[xn * 4 + 1]? = some (.slice (some ⟨g1, 0, none⟩) lat c1) := by rw [← hN.own.cellAt _ (by omega)]; exact hc5
    rw [← set_same hx] at o9
    have hfin := cell_fin hN k9 o9 y9 (k9.txt _ _ _ ht1) hg1 (by rw [HAL.out]; omega)
    refine bodyPost_ret (v := .tuple #[.agg #[.slice (some ⟨g, 0, none⟩) len c], .int .i64 0]) (by simp [results, Tryz.results27, go_sem, hfin.2]) rfl ⟨⟨_, 0, rfl, hfin.1.lower (by omega) (by omega)⟩, ?_⟩
    exact hbW.setCell (by show w.heap.size ≤ w.heap.size + 1; omega) _
end Go.Proofs.YtomnkglnbmnmpaaGreatDoor
namespace Go.Proofs.YtomnkglnbmnmpaaGreatDoor
open Go.RowKit Go.Vt Go.Proofs
/-- A text and an error; without an error the tree is well made, the element lies in it, and the search finds the name. -/
def GetQ (rows : List (List C)) (len : Nat) (x : Int) (nm : ByteArray) (e : Ending) : Prop := ∃ (s : ByteArray) (n : Int), e = .returned (.tuple #[.string s, .int .i64 n]) ∧ s.size ≤ strMax ∧ (n = 0 → Good2 rows len ∧ (0 ≤ x ∧ x < len ∧ isFound (nameOf (attsOf rows x.toNat)) nm (attLen rows x.toNat) = true))
set_option maxRecDepth 100000 in
set_option maxHeartbeats 1000000 in
/-- attrs.Get: without an error the search finds the name. -/
theorem get3_ok (F : Nat → Prop) (w : World) (a : Option Addr) (x : Int) (nm : ByteArray) (len cap : Nat) (rows : List (List C)) (hr : Rd F w (.sl 4 len cap rows) (.slice a len cap)) (ht : HtRows tab [.str, .sl 116, .int .i64, .sl 3] rows) (hF : ∀ k, F k → k < w.heap.size) (hnn : nodesRows rows ≤ 1099511627776) :
    Calls Tryz.prog 25 #[.agg #[.slice a len cap], .int .i64 x, .string nm] w fun e w' => GetQ rows len x nm e ∧ Below w.heap.size w w' := by
  obtain ⟨a0, b, o, ha0, h2, h3⟩ := row_at hr hF
  obtain rfl : a = a0 := by injection ha0 with ha0
  obtain ⟨W, hW⟩ : ∃ W, W = w.alloc (Obj.cells #[.slice a len cap] 24) := ⟨_, rfl⟩
  have hb : Below w.heap.size w W := by rw [hW]; exact (Below.refl _ _).alloc (Nat.le_refl _) _
  have s1 : W.heap.size = w.heap.size + 1 := by rw [hW, alloc_size]
  have x1 : W.heap[w.heap.size]? = some (.cells #[.slice a len cap] 24 (0, 0)) := by rw [hW]; exact heap_alloc_new w _
  have hc := acheck_ok F W a x len cap rows (Rd.mono (fun k hk => ⟨hk, hb.block k (hF k hk)⟩) _ _ hr) ht (fun k hk => Nat.lt_of_lt_of_le (hF k hk) hb.size) hnn
  have c0 : W.cell? ⟨w.heap.size, 0, none⟩ = some (.slice a len cap) := cell_of_row _ _ 0 _ _ _ x1
  have H3 := Lib.hid h3
  clear h3
  have HC := Lib.hid hc
  have HW := Lib.hid hW
  have HB := Lib.hid hb
  have HR := Lib.hid hr
  have HF := Lib.hid hF
  have HT := Lib.hid ht
  have HX := Lib.hid (And.intro x1 s1)
  clear hc hW hb hr ht hF x1 s1
  go_enter Tryz.func25, Tryz.ntmps25
  go_wp2_with fail
  rw [← HW.out]
  go_wp2_with fail
  refine HC.out.mono ?_
  rintro e w1 ⟨⟨n, rfl, hn⟩, hb1⟩
  have HN := Lib.hid hn
  have hb2 := HB.out.trans (hb1.mono HB.out.size)
  have x2 : w1.heap[w.heap.size]? = some (.cells #[.slice a len cap] 24 (0, 0)) := (hb1.block _ (by have := HX.out.2; omega)).trans HX.out.1
  have c1 : w1.cell? ⟨w.heap.size, 0, none⟩ = some (.slice a len cap) := cell_of_row _ _ 0 _ _ _ x2
  have s2 : w.heap.size + 1 ≤ w1.heap.size := by have := HX.out.2; have := hb1.size; omega
  have HB2 := Lib.hid hb2
  have HX2 := Lib.hid x2
  clear hn hb1 hb2 c0 x2
  by_cases hn0 : n = 0
  case neg =>
    have hn1 : (n != 0) = true := by simp [hn0]
    go_wp2_with fail
    go_ret2
    exact ⟨⟨_, n, rfl, by decide, fun h => absurd h hn0⟩, HB2.out⟩
  case pos =>
    subst hn0
    obtain ⟨hG, hx1, hx2⟩ := HN.out (by first | trivial | rfl)
    obtain ⟨xn, rfl⟩ := Int.eq_ofNat_of_zero_le hx1
    have HG := Lib.hid hG
    have hrk : rows[xn]? = some (rows[xn]'(by omega)) := List.getElem?_eq_getElem _
    generalize rows[xn]'(by omega) = rk at hrk
    obtain ⟨rfl, _, hbl, hrd⟩ := H3.out xn rk hrk
    obtain ⟨_, at_, lat, kat, ats, _, _, _, _, _, rfl, hra, hta, _, _, _, n1, _, _⟩ := node_at hrk HT.out hrd
    have q1 := (HB2.out.cell (p := ⟨b, o + xn * 4 + 1, none⟩) hbl).trans n1
    have hla := attrs_le hrk hra hnn
    have hal : attLen rows xn = lat ∧ attsOf rows xn = ats := ⟨by simp only [attLen, hrk], by simp only [attsOf, hrk]⟩
    have HAL := Lib.hid hal
    clear hal
    have hf := find3_ok F w1 (.slice at_ lat kat) nm lat kat ats (Rd.mono (fun k hk => ⟨hk, HB2.out.block k (HF.out k hk)⟩) _ _ hra) hta (fun k hk => Nat.lt_of_lt_of_le (HF.out k hk) HB2.out.size) hla
    have HFD := Lib.hid hf
    have HRA := Lib.hid (And.intro hra hta)
    clear hf hG hrk hrd hra hta n1
    go_wp2_with fail
    refine HFD.out.mono ?_
    rintro e w2 ⟨⟨rfl, hk1⟩, hb3⟩
    have hk2 : isFound (nameOf ats) nm lat = true → foundAt (nameOf ats) nm lat < lat := isFound_lt
    have hfd : isFound (nameOf ats) nm lat = isFound (nameOf ats) nm lat := rfl
    revert hk1 hk2 hfd
    generalize hk0 : foundAt (nameOf ats) nm lat = k
    generalize hf0 : isFound (nameOf ats) nm lat = fd
    intro hk1 hk2 _
    have HFD2 := Lib.hid hf0
    clear hk0 hf0
    have hb4 := HB2.out.trans (hb3.mono HB2.out.size)
    have q2 := (hb3.cell (p := ⟨b, o + xn * 4 + 1, none⟩) (by have := HB2.out.size; show b < w1.heap.size; omega)).trans q1
    have c2 : w2.cell? ⟨w.heap.size, 0, none⟩ = some (.slice (some ⟨b, o, none⟩) len cap) := (hb3.cell (by show w.heap.size < w1.heap.size; omega)).trans c1
    have HB4 := Lib.hid hb4
    clear hb3 hb4 q1 c1
    cases fd with
    | false =>
      go_wp2_with fail
      go_ret2
      exact ⟨⟨_, 6, rfl, by decide, fun h => by cases h⟩, HB4.out⟩
    | true =>
      have hkl : k < lat := hk2 (by first | trivial | rfl)
      obtain ⟨hra, hta⟩ := HRA.out
      obtain ⟨a1, b1, o1, ha1, h5, h6⟩ := row_at hra HF.out
      obtain rfl : at_ = a1 := by injection ha1 with ha1
      have hrj : ats[k]? = some (ats[k]'(by omega)) := List.getElem?_eq_getElem _
      generalize ats[k]'(by omega) = rj at hrj
      obtain ⟨rfl, _, hbl1, hrd⟩ := h6 k rj hrj
      obtain ⟨c0, cs0, rfl, k0, t1⟩ := (ht_at _ _ _ hta hrj).cons
      obtain ⟨c1', cs1, rfl, k1, t2⟩ := t1.cons
      obtain rfl := t2.nil
      obtain ⟨s1, rfl⟩ := ht_str k0
      obtain ⟨s2, rfl⟩ := ht_str k1
      simp only [RdRow, Rd, and_true, exists_eq_right] at hrd
      have q3 := (HB4.out.cell (p := ⟨b1, o1 + k * 2 + 1, none⟩) hbl1).trans hrd.2
      have hs2 : s2.size ≤ strMax := by simp only [Ht] at k1; exact k1.2
      clear hra hta h6 hrd k0 k1 t1 t2 ha1
      go_wp2_with fail
      go_ret2
      exact ⟨⟨_, 0, rfl, hs2, fun _ => ⟨HG.out, by omega, by omega, by simp only [Int.toNat_natCast]; rw [HAL.out.1, HAL.out.2]; exact HFD2.out⟩⟩, HB4.out⟩
/-- A block of texts reads as data, name by name. -/
theorem AttV.rd {B : Nat} {w : World} {a1 : Option Addr} {l c1 : Nat} {nm : Nat → ByteArray} (h : AttV (fun k => B ≤ k) w 116 (.slice a1 l c1) l) (hn : NamesAt w a1 l nm) (hl : 0 < l) :
    ∃ rows, Rd (Nw B w) w (.sl 2 l c1 rows) (.slice a1 l c1) ∧ HtRows tab [.str, .str] rows ∧ ∀ j, j < l → nameOf rows j = nm j := by
  rcases h with ⟨_, h⟩ | ⟨g1, c, h, hF, hi⟩
  · omega
  · injection h with h1 h2 h3
    subst h1 h3
    obtain ⟨rows, r1, r2, _⟩ := hi.rd (tab := tab) hF
    refine ⟨rows, r1, r2, fun j hj => ?_⟩
    obtain ⟨g, cur, e1, e2, e3⟩ := hn j hj
    injection e1 with e1
    injection e1 with e1
    subst e1
    obtain ⟨a0, b, o, ha0, _, h6⟩ := row_at r1 (fun k hk => hk.2.1)
    injection ha0 with ha0
    subst ha0
    have hlen : l ≤ rows.length := by
      simp only [Rd] at r1
      obtain ⟨_, _, h5, _⟩ := r1
      exact h5
    have hrj : rows[j]? = some (rows[j]'(by omega)) := List.getElem?_eq_getElem _
    generalize rows[j]'(by omega) = rj at hrj
    obtain ⟨hx, _, _, hrd⟩ := h6 j rj hrj
    obtain ⟨c0, cs0, rfl, k0, t1⟩ := (ht_at _ _ _ r2 hrj).cons
    obtain ⟨c2, cs1, rfl, k1, t2⟩ := t1.cons
    obtain rfl := t2.nil
    obtain ⟨s1, rfl⟩ := ht_str k0
    obtain ⟨s2, rfl⟩ := ht_str k1
    simp only [RdRow, Rd, and_true, exists_eq_right] at hrd
    injection hx with hx
    injection hx with hb ho
    have h7 := hrd.1
    have : nameOf rows j = s1 := by simp only [nameOf, hrj]
    rw [this]
    subst hb ho
    simp only [Nat.zero_add] at h7
    rw [cell_of_row _ _ _ _ _ _ e2] at h7
    rw [e3] at h7
    injection h7 with h7
    injection h7 with h7
    exact h7.symm
end Go.Proofs.YtomnkglnbmnmpaaGreatDoor
namespace Go.Proofs.YtomnkglnbmnmpaaGreatDoor
open Go.RowKit Go.Vt Go.Proofs
set_option maxRecDepth 100000 in
set_option maxHeartbeats 8000000 in
/-- attrs.Unset. -/
theorem unset_ok (F : Nat → Prop) (w : World) (a : Option Addr) (x : Int) (nm : ByteArray) (len cap : Nat) (rows : List (List C)) (hr : Rd F w (.sl 4 len cap rows) (.slice a len cap)) (ht : HtRows tab [.str, .sl 116, .int .i64, .sl 3] rows) (hF : ∀ k, F k → k < w.heap.size) (hnn : nodesRows rows ≤ 900000000000) :
    Calls Tryz.prog 30 #[.agg #[.slice a len cap], .int .i64 x, .string nm] w fun e w' => PutP w.heap.size (nodesRows rows + 100) e w' ∧ Below w.heap.size w w' := by
  obtain ⟨a0, b, o, ha0, h2, h3⟩ := row_at hr hF
  obtain rfl : a = a0 := by injection ha0 with ha0
  obtain ⟨W0, hW0⟩ : ∃ W, W = (w.alloc (Obj.cells #[.slice a len cap] 24)).alloc (Obj.cells #[.slice none 0 0] 24) := ⟨_, rfl⟩
  have s0 : W0.heap.size = w.heap.size + 2 := by rw [hW0, alloc_size, alloc_size]
  have b0 : Below w.heap.size w W0 := by rw [hW0]; exact ((Below.refl _ _).alloc (Nat.le_refl _) _).alloc (by rw [alloc_size]; omega) _
  have x0 : W0.heap[w.heap.size]? = some (.cells #[.slice a len cap] 24 (0, 0)) := by rw [hW0]; exact (Below.heap_alloc _ _ _ (by rw [alloc_size]; omega)).trans (heap_alloc_new w _)
  have y0 : W0.heap[w.heap.size + 1]? = some (.cells #[.slice none 0 0] 24 (0, 0)) := by
    rw [hW0]; have := heap_alloc_new (w.alloc (Obj.cells #[.slice a len cap] 24)) (Obj.cells #[.slice none 0 0] 24); rwa [alloc_size] at this
  have hc := get3_ok F W0 a x nm len cap rows (Rd.mono (fun k hk => ⟨hk, b0.block k (hF k hk)⟩) _ _ hr) ht (fun k hk => by have := hF k hk; omega) (by omega)
  have c0 : W0.cell? ⟨w.heap.size, 0, none⟩ = some (.slice a len cap) := cell_of_row _ _ 0 _ _ _ x0
  have HC := Lib.hid hc
  have HW := Lib.hid hW0
  have HR := Lib.hid hr
  have HT := Lib.hid ht
  have HF := Lib.hid hF
  have H3 := Lib.hid h3
  have HB0 := Lib.hid b0
  have HX := Lib.hid (And.intro x0 (And.intro y0 s0))
  clear hc hr ht hF b0 x0 y0 s0 hW0 h3 ha0
  go_enter Tryz.func30, Tryz.ntmps30
  go_wp2_with fail
  rw [← HW.out]
  go_wp2_with fail
  refine HC.out.mono ?_
  rintro e w1 ⟨⟨s0, n, rfl, _, hn⟩, hb1⟩
  have hb := HB0.out.trans (hb1.mono HB0.out.size)
  have x1 : w1.heap[w.heap.size]? = some (.cells #[.slice a len cap] 24 (0, 0)) := (hb1.block _ (by have := HX.out.2.2; omega)).trans HX.out.1
  have y1 : w1.heap[w.heap.size + 1]? = some (.cells #[.slice none 0 0] 24 (0, 0)) := (hb1.block _ (by have := HX.out.2.2; omega)).trans HX.out.2.1
  have s1 : w.heap.size + 1 + 1 ≤ w1.heap.size := by have := HX.out.2.2; have := hb1.size; omega
  have ca : w1.cell? ⟨w.heap.size, 0, none⟩ = some (.slice a len cap) := cell_of_row _ _ 0 _ _ _ x1
  have cr : w1.cell? ⟨w.heap.size + 1, 0, none⟩ = some (.slice none 0 0) := cell_of_row _ _ 0 _ _ _ y1
  have fr : w1.frozen? ⟨w.heap.size + 1, 0, none⟩ = false := by simp [World.frozen?, y1]
  have e0 : (w1.setCell ⟨w.heap.size + 1, 0, none⟩ (.slice none 0 0)).cell? ⟨w.heap.size + 1, 0, none⟩ = some (.slice none 0 0) := cell_of_row _ _ 0 _ _ _ (setCell_one y1)
  have hE := hb.setCell (p := ⟨w.heap.size + 1, 0, none⟩) (by simp) (.slice none 0 0)
  have HB := Lib.hid hb
  have HE := Lib.hid (And.intro e0 hE)
  have HY := Lib.hid (And.intro x1 (And.intro y1 s1))
  have HN := Lib.hid hn
  clear c0 HW HC hb1 HB0 hb x1 y1 e0 hE HX hn
  by_cases hn0 : n = 0
  case neg =>
    have hm1 : (n != 0) = true := by simp [hn0]
    go_wp2_with fail
    refine bodyPost_ret (v := .tuple #[.agg #[.slice none 0 0], .int .i64 n]) (by simp [results, Tryz.results30, go_sem, HE.out.1]) rfl ⟨⟨_, n, rfl, tree_none⟩, HE.out.2⟩
  case pos =>
  subst hn0
  obtain ⟨hG, hx1, hx2, hfo⟩ := HN.out (by first | trivial | rfl)
  obtain ⟨xn, rfl⟩ := Int.eq_ofNat_of_zero_le hx1
  simp only [Int.toNat_natCast] at hfo
  have hl1 := hG.l1
  have hl2 := hG.l2
  have hrk : rows[xn]? = some (rows[xn]'(by omega)) := List.getElem?_eq_getElem _
  generalize rows[xn]'(by omega) = rk at hrk
  obtain ⟨rfl, _, hbl, hrd⟩ := H3.out xn rk hrk
  obtain ⟨_, at_, lat, kat, ats, _, _, _, _, _, rfl, hra, hta, _, _, _, n1, _, _⟩ := node_at hrk HT.out hrd
  have hla := attrs_le hrk hra (by omega)
  have hal : attLen rows xn = lat := by simp only [attLen, hrk]
  have has : attsOf rows xn = ats := by simp only [attsOf, hrk]
  rw [hal, has] at hfo
  have hfl := isFound_lt hfo
  have hB := HB.out
  have hsB := hB.size
  have ht := twin_ok F w1 (some ⟨b, o, none⟩) len cap rows (Rd.mono (fun k hk => ⟨hk, hB.block k (HF.out k hk)⟩) _ _ HR.out) HT.out (fun k hk => Nat.lt_of_lt_of_le (HF.out k hk) hB.size) (by omega) (by omega) hl2
  obtain ⟨x1, y1, s1'⟩ := HY.out
  -- what holds behind the copy: y's own block stands, the node's list lies in new memory
  have after : ∀ (w5 : World) (g c : Nat), OwnTreeW rows w1.heap.size (nodesRows rows + 64) len g c w5 → Below w1.heap.size w1 w5 → ∃ a1 c1 xs, NodeIn rows w1.heap.size (nodesRows rows + 64) len g c xn w5 a1 c1 xs ∧ w5.heap[w.heap.size + 1]? = some (.cells #[.slice none 0 0] 24 (0, 0)) ∧ w.heap.size + 1 < g ∧ g < w5.heap.size := by
    intro w5 g c hT hb5
    obtain ⟨a1, c1, xs, hN⟩ := hT.node (i := xn) (by omega)
    obtain ⟨o1, cur, o2⟩ := own_block hN.own
    exact ⟨a1, c1, xs, hN, (hb5.block _ (by omega)).trans y1, by omega, (Array.getElem?_eq_some_iff.1 o2).1⟩
  have HT4 := Lib.hid ht
  have HA4 := Lib.hid after
  have HAL := Lib.hid (And.intro hal (And.intro has hla))
  have HFO := Lib.hid (And.intro hfo hfl)
  clear ht after hrk hrd hra hta n1 hal has hla hfo hfl hB HE x1 y1 s1' hG
  go_wp2_with fail
  refine HT4.out.mono ?_
  rintro e w5 ⟨⟨g, c, rfl, hT⟩, hb5⟩
  obtain ⟨a1, c1, xs, hN, y5, hg0, hg5⟩ := HA4.out w5 g c hT hb5
  obtain ⟨hal, has, hla⟩ := HAL.out
  obtain ⟨hfo, hfl⟩ := HFO.out
  have hc5 := hN.cell
  have hat := hN.att
  have hnm := hN.names
  rw [hal] at hc5 hat hnm
  rw [has] at hnm
  obtain ⟨rs, hrs, hts, hnn⟩ := AttV.rd hat hnm (by omega)
  obtain ⟨g1, rfl, hg1, ht1⟩ := AttV.pos hat (by omega)
  obtain ⟨_, cur, hcur⟩ := own_block hN.own
  have hg1l := ht1.lt
  obtain ⟨W6, hW6⟩ : ∃ W, W = w5.alloc (Obj.cells #[.slice (some ⟨g, 0, none⟩) len c] 24) := ⟨_, rfl⟩
  have b6 : Below w5.heap.size w5 W6 := by rw [hW6]; exact (Below.refl _ _).alloc (Nat.le_refl _) _
  have s6 : W6.heap.size = w5.heap.size + 1 := by rw [hW6, alloc_size]
  have p6 : W6.heap[w5.heap.size]? = some (.cells #[.slice (some ⟨g, 0, none⟩) len c] 24 (0, 0)) := by rw [hW6]; exact heap_alloc_new w5 _
  have q5 : ∀ X, (w5.alloc X).cell? ⟨g, xn * 4 + 1, none⟩ = some (.slice (some ⟨g1, 0, none⟩) lat c1) := fun X => by
    rw [World.cell?_of_block (w := w5) (a := ⟨g, xn * 4 + 1, none⟩) (Below.heap_alloc _ _ _ hg5)]; exact hc5
  have hf := find3_ok (Nw w1.heap.size w5) W6 (.slice (some ⟨g1, 0, none⟩) lat c1) nm lat c1 rs (Rd.mono (fun k hk => ⟨hk, b6.block k hk.2.1⟩) _ _ hrs) hts (fun k hk => Nat.lt_of_lt_of_le hk.2.1 b6.size) hla
  obtain ⟨fs1, fs2⟩ := found_same nm hnn
  rw [fs1, fs2, hfo] at hf
  generalize foundAt (nameOf ats) nm lat = k at hf hfl
  have HFD := Lib.hid hf
  have HW6 := Lib.hid hW6
  have HH := Lib.hid (And.intro hT (And.intro hb5 (And.intro hN (And.intro y5 (And.intro b6 (And.intro p6 (And.intro ht1 (And.intro hg1 hcur))))))))
  have HS := Lib.hid (And.intro s6 hc5)
  clear hf hW6 hT hb5 hN y5 b6 p6 ht1 hg1 hcur hat hnm hrs hts hnn fs1 fs2 s6 hc5 hal has hla hfo
  clear HFO ca cr fr
  go_wp2_with fail
  rw [← HW6.out]
  refine HFD.out.mono ?_
  rintro e w7 ⟨⟨rfl, _⟩, hb7⟩
  obtain ⟨hT, hb5, hN, y5, b6, p6, ht1, hg1, hcur⟩ := HH.out
  obtain ⟨s6, hc5⟩ := HS.out
  have hsz5 := hb5.size
  have hsz7 := hb7.size
  have b57 : Below w5.heap.size w5 w7 := b6.trans (hb7.mono (by omega))
  have p7 : w7.heap[w5.heap.size]? = some (.cells #[.slice (some ⟨g, 0, none⟩) len c] 24 (0, 0)) := (hb7.block _ (by omega)).trans p6
  have y7 : w7.heap[w.heap.size + 1]? = some (.cells #[.slice none 0 0] 24 (0, 0)) := (b57.block _ (by omega)).trans y5
  have g7 : w7.heap[g]? = some (.cells cur 107 (0, 0)) := (b57.block _ hg5).trans hcur
  have t7 : TxtAt w7 116 g1 (lat * 2) (c1 * 2) := ht1.keep (b57.block _ hg1l)
  have cd7 : w7.cell? ⟨w5.heap.size, 0, none⟩ = some (.slice (some ⟨g, 0, none⟩) len c) := cell_of_row _ _ 0 _ _ _ p7
  have cn7 : w7.cell? ⟨g, xn * 4 + 1, none⟩ = some (.slice (some ⟨g1, 0, none⟩) lat c1) := by
    rw [World.cell?_of_block (w := w5) (a := ⟨g, xn * 4 + 1, none⟩) (b57.block _ hg5)]; exact hc5
  have n1 : g1 ≠ g := txt_ne g7 (by decide) t7
  have n2 : w5.heap.size ≠ g1 := by omega
  have n3 : w.heap.size + 1 ≠ g1 := fun e => txt_ne y7 (by decide) t7 e.symm
  have hw1 : IntKind.i64.wrap ((k : Int) + 1) = (k : Int) + 1 := by rw [IntKind.wrap_i64]; have := HAL.out.2.2; omega
  have hdel : ∀ V, Below w7.heap.size w7 V → Calls Tryz.prog 85 #[.slice (some ⟨g1, 0, none⟩) lat c1, .int .i64 k, .int .i64 ((k : Int) + 1)] V fun e w' => e = .returned (.slice (some ⟨g1, 0, none⟩) (lat - 1) c1) ∧ TxtAt w' 116 g1 ((lat - 1) * 2) (c1 * 2) ∧ (∀ j, j < w7.heap.size → j ≠ g1 → w'.heap[j]? = w7.heap[j]?) ∧ w7.heap.size ≤ w'.heap.size ∧ Below g1 w7 w' ∧ ∀ k n c, TxtAt w7 116 k n c → TxtAt w' 116 k n c := fun V hV => by
    refine (delete_atts V g1 lat c1 k (t7.keep (hV.block _ (by omega))) hfl HAL.out.2.2).mono ?_
    rintro e w' ⟨rfl, f1, ⟨f2, f3⟩, f4⟩
    exact ⟨rfl, f1, fun j h1 h2 => (f3 j h2).trans (hV.block j h1), Nat.le_trans hV.size f2.size, (hV.mono (by omega)).trans f2, fun k n c h => f4 k n c (h.keep (hV.block k h.lt))⟩
  have HDEL := Lib.hid hdel
  have HZ := Lib.hid (And.intro p7 (And.intro y7 (And.intro g7 b57)))
  clear hdel p7 y7 g7 b57 t7 hT hb5 hN y5 b6 p6 ht1 hg1 hcur hc5 hb7 q5
  go_wp2_with fail
  go_region_with (go_at_call 85; refine (HDEL.out _ ?_).mono ?_; (repeat (first | exact Below.refl _ _ | refine below_drew ?_ | refine below_drewN ?_ _)); rintro e w8 ⟨rfl, e1, e2, e3, e4, e5⟩; have hd8 := (e2 w5.heap.size (by omega) n2).trans HZ.out.1; have cd8 : w8.cell? ⟨w5.heap.size, 0, none⟩ = some (.slice (some ⟨g, 0, none⟩) len c) := cell_of_row _ _ 0 _ _ _ hd8; have hg8 := e2 g (by omega) n1.symm; have cn8 : w8.cell? ⟨g, xn * 4 + 1, none⟩ = some (.slice (some ⟨g1, 0, none⟩) lat c1) := (World.cell?_of_block (w := w7) hg8).trans cn7; have hg9 := hg8.trans HZ.out.2.2.1; have fn8 : w8.frozen? ⟨g, xn * 4 + 1, none⟩ = false := by simp [World.frozen?, hg9])
  all_goals
    have hy8 := (e2 (w.heap.size + 1) (by omega) n3).trans HZ.out.2.1
    have cy8 : w8.cell? ⟨w.heap.size + 1, 0, none⟩ = some (.slice none 0 0) := cell_of_row _ _ 0 _ _ _ hy8
    have fy8 : w8.frozen? ⟨w.heap.size + 1, 0, none⟩ = false := by simp [World.frozen?, hy8]
    have n4 : w5.heap.size ≠ g := by omega
    have n5 : g ≠ w5.heap.size := by omega
    have n6 : w.heap.size + 1 ≠ g := by omega
    have n7 : g ≠ w.heap.size + 1 := by omega
    have n8 : w.heap.size + 1 ≠ w5.heap.size := by omega
    have n9 : w5.heap.size ≠ w.heap.size + 1 := by omega
    obtain ⟨hT, hb5, hN, y5, b6, p6, ht1, hg1, hcur⟩ := HH.out
    obtain ⟨p7, y7, g7, b57⟩ := HZ.out
    have k7 : Keeps w5 w7 := Keeps.below b57
    have k8 : Keeps w7 w8 := ⟨e5, fun k n c h => h.keep (e2 k h.lt (fun e => by
      subst e
      obtain ⟨cur1, e6, _⟩ := h
      obtain ⟨cur2, e7, _⟩ := ht1.keep (b57.block _ hg1l)
      rw [e6] at e7; cases e7))⟩
    have ko := Keeps.other (j := xn * 4 + 1) hg9 (by decide) (by decide) (.slice (some ⟨g1, 0, none⟩) (lat - 1) c1)
    have o8 := ((own_same hN.own (hg8.trans (b57.block _ hg5))).stored (xn * 4 + 1) (.slice (some ⟨g1, 0, none⟩) (lat - 1) c1)).1
    have hy9 : (w8.setCell ⟨g, xn * 4 + 1, none⟩ (.slice (some ⟨g1, 0, none⟩) (lat - 1) c1)).heap[w.heap.size + 1]? = some (.cells #[.slice none 0 0] 24 (0, 0)) := (Below.heap_setCell _ _ _ _ (by show w.heap.size + 1 ≠ g; exact n6)).trans hy8
    have hfin := cell_fin hN ((k7.trans k8).trans ko) o8 hy9 (ko.txt _ _ _ e1) hg1 (by rw [HAL.out.1]; omega)
    have hbW : Below w.heap.size w w8 := ((HB.out.trans (hb5.mono HB.out.size)).trans (b57.mono (by omega))).trans (e4.mono (by omega))
    have HX := Lib.hid (And.intro hfin hbW)
    clear hfin hbW hy9 o8 ko k8 k7 hT hb5 hN y5 b6 p6 ht1 hg1 hcur p7 y7 g7 b57 hy8 hg8 hg9 e1 e2 e3 e4 e5 hd8
    go_wp2_with fail
    obtain ⟨hfin, hbW⟩ := HX.out
    refine bodyPost_ret (v := .tuple #[.agg #[.slice (some ⟨g, 0, none⟩) len c], .int .i64 0]) (by simp [results, Tryz.results30, go_sem, hfin.2]) rfl ⟨⟨_, 0, rfl, hfin.1.lower (by omega) (by omega)⟩, ?_⟩
    exact (hbW.setCell (by show w.heap.size ≤ g; omega) _).setCell (by show w.heap.size ≤ w.heap.size + 1; omega) _
end Go.Proofs.YtomnkglnbmnmpaaGreatDoor
