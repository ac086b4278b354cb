/- mutate.Append: a tree in new memory, or none. -/
import Derived.Test.YtomnkglnbmnmpaaGreatDoorPut
import Derived.WalkKit
import Derived.WalkSpells
import Derived.WalkLawsBesides
import Derived.Deep.RegionWith
import Derived.RegionTactic
namespace Go.Proofs.YtomnkglnbmnmpaaGreatDoor
open Go.RowKit Go.Vt Go.Proofs
theorem tree_none {B m : Nat} {w' : World} : NewTree B m w' (.slice none 0 0) :=
  ⟨0, 0, [], by simp only [Rd]; exact ⟨none, rfl, by simp, by simp, .inl (by first | trivial | rfl)⟩, by simp [HtRows], by simp [nodesRows]⟩
/-- A tree in new memory, and a number. -/
def PutP (B m : Nat) (e : Ending) (w' : World) : Prop := ∃ (v : Value) (n : Int), e = .returned (.tuple #[.agg #[v], .int .i64 n]) ∧ NewTree B m w' v
/-- A tree of one's own is a tree in new memory. -/
theorem OwnTree.new {B m len g c : Nat} {w : World} (h : OwnTree B m len g c w) : NewTree B m w (.slice (some ⟨g, 0, none⟩) len c) := by
  obtain ⟨xs, F, J, h1, h2, h3, h4, h5⟩ := h
  obtain ⟨rs, r1, r2, r3, r4⟩ := NodesV.flat (B := B) (fun k hk => (h3 k hk).1) (fun k hk => (h4 k hk).1.1) rfl _ _ _ h2
  obtain ⟨cap, hc⟩ := Rd.of_own h1 r1 r2 (HtRows.lens (n := 4) rfl rs r3)
  exact ⟨len, cap, rs, hc, r3, r4⟩
theorem OwnTree.keep {B m len g c : Nat} {w W : World} (h : OwnTree B m len g c w) (hb : Below w.heap.size w W) : OwnTree B m len g c W := by
  obtain ⟨xs, F, J, h1, h2, h3, h4, h5⟩ := h
  exact ⟨xs, F, J, ownsRow_below h1 hb, NodesV.mono (fun k hk => ⟨hk, (nw_below hb (h3 k hk).1).2⟩) (fun k hk => ⟨hk, fun _ _ hi => hi.keep (hb.block k (h4 k hk).1.2)⟩) _ _ _ h2, fun k hk => ⟨(nw_below hb (h3 k hk).1).1, (h3 k hk).2⟩, fun k hk => ⟨⟨(h4 k hk).1.1, Nat.lt_of_lt_of_le (h4 k hk).1.2 hb.size⟩, (h4 k hk).2⟩, h5⟩
set_option maxRecDepth 100000 in
set_option maxHeartbeats 4000000 in
theorem put_ok (F : Nat → Prop) (w : World) (a : Option Addr) (len cap parent child : Nat) (next : Int) (rows : List (List C)) (hr : Rd F w (.sl 4 len cap rows) (.slice a len cap)) (ht : HtRows tab [.str, .sl 116, .int .i64, .sl 3] rows) (hF : ∀ k, F k → k < w.heap.size) (hnn : nodesRows rows ≤ 1000000000000) (hlen : len ≤ 64) (hpl : parent < len) (hcl : child < len) :
    Calls Tryz.prog 75 #[.agg #[.slice a len cap], .int .i64 parent, .int .i64 child, .int .i64 next] w fun e w' => PutP w.heap.size (nodesRows rows + 100) e w' ∧ Below w.heap.size w w' := by
  obtain ⟨W0, hW0⟩ : ∃ W, W = (w.alloc (Obj.cells #[.slice a len cap] 24)).alloc (Obj.cells #[.slice none 0 0] 24) := ⟨_, rfl⟩
  have s0 : W0.heap.size = w.heap.size + 2 := by rw [hW0, alloc_size, alloc_size]
  have b0 : Below w.heap.size w W0 := by rw [hW0]; exact ((Below.refl _ _).alloc (Nat.le_refl _) _).alloc (by rw [alloc_size]; omega) _
  have x0 : W0.heap[w.heap.size]? = some (.cells #[.slice a len cap] 24 (0, 0)) := by rw [hW0]; exact (Below.heap_alloc _ _ _ (by rw [alloc_size]; omega)).trans (heap_alloc_new w _)
  have y0 : W0.heap[w.heap.size + 1]? = some (.cells #[.slice none 0 0] 24 (0, 0)) := by
    rw [hW0]; have := heap_alloc_new (w.alloc (Obj.cells #[.slice a len cap] 24)) (Obj.cells #[.slice none 0 0] 24); rwa [alloc_size] at this
  have hc := below_pair F W0 (.slice a len cap) parent child len cap rows (Rd.mono (fun k hk => ⟨hk, b0.block k (hF k hk)⟩) _ _ hr) ht (fun k hk => by have := hF k hk; omega) (by omega)
  have c0 : W0.cell? ⟨w.heap.size, 0, none⟩ = some (.slice a len cap) := cell_of_row _ _ 0 _ _ _ x0
  have HC := Lib.hid hc
  have HW := Lib.hid hW0
  have HR := Lib.hid hr
  have HT := Lib.hid ht
  have HF := Lib.hid hF
  have HB0 := Lib.hid b0
  have HX := Lib.hid (And.intro x0 (And.intro y0 s0))
  clear hc hr ht hF b0 x0 y0 s0 hW0
  go_enter Tryz.func75, Tryz.ntmps75
  go_wp2_with fail
  rw [← HW.out]
  go_wp2_with fail
  refine HC.out.mono ?_
  rintro e w1 ⟨⟨bb, n, rfl⟩, hb1⟩
  have hb := HB0.out.trans (hb1.mono HB0.out.size)
  have x1 : w1.heap[w.heap.size]? = some (.cells #[.slice a len cap] 24 (0, 0)) := (hb1.block _ (by have := HX.out.2.2; omega)).trans HX.out.1
  have y1 : w1.heap[w.heap.size + 1]? = some (.cells #[.slice none 0 0] 24 (0, 0)) := (hb1.block _ (by have := HX.out.2.2; omega)).trans HX.out.2.1
  have s1 : w.heap.size + 2 ≤ w1.heap.size := by have := HX.out.2.2; have := hb1.size; omega
  have ca : w1.cell? ⟨w.heap.size, 0, none⟩ = some (.slice a len cap) := cell_of_row _ _ 0 _ _ _ x1
  have cr : w1.cell? ⟨w.heap.size + 1, 0, none⟩ = some (.slice none 0 0) := cell_of_row _ _ 0 _ _ _ y1
  have fr : w1.frozen? ⟨w.heap.size + 1, 0, none⟩ = false := by simp [World.frozen?, y1]
  have e0 : (w1.setCell ⟨w.heap.size + 1, 0, none⟩ (.slice none 0 0)).cell? ⟨w.heap.size + 1, 0, none⟩ = some (.slice none 0 0) := cell_of_row _ _ 0 _ _ _ (setCell_one y1)
  have hE := hb.setCell (p := ⟨w.heap.size + 1, 0, none⟩) (by simp) (.slice none 0 0)
  have HB := Lib.hid hb
  have HE := Lib.hid (And.intro e0 hE)
  have HY := Lib.hid (And.intro x1 (And.intro y1 s1))
  clear c0 HW HC hb1 HB0 hb x1 y1 s1 e0 hE HX
  by_cases hn0 : n = 0
  case neg =>
    have hm1 : (n != 0) = true := by simp [hn0]
    go_wp2_with fail
    refine bodyPost_ret (v := .tuple #[.agg #[.slice none 0 0], .int .i64 n]) (by simp [results, Tryz.results75, go_sem, HE.out.1]) rfl ⟨⟨_, n, rfl, tree_none⟩, HE.out.2⟩
  case pos =>
    subst hn0
    cases bb with
    | true =>
      go_wp2_with fail
      refine bodyPost_ret (v := .tuple #[.agg #[.slice none 0 0], .int .i64 40]) (by simp [results, Tryz.results75, go_sem, HE.out.1]) rfl ⟨⟨_, 40, rfl, tree_none⟩, HE.out.2⟩
    | false =>
      by_cases hpc : parent = child
      case pos =>
        have hpc1 : ((parent : Int) == (child : Int)) = true := by simp [hpc]
        go_wp2_with fail
        refine bodyPost_ret (v := .tuple #[.agg #[.slice none 0 0], .int .i64 40]) (by simp [results, Tryz.results75, go_sem, HE.out.1]) rfl ⟨⟨_, 40, rfl, tree_none⟩, HE.out.2⟩
      case neg =>
        have hpc1 : ((parent : Int) == (child : Int)) = false := by simp; omega
        have hpc2 : ¬ ((parent : Int) = (child : Int)) := by omega
        have ht := taken_ok F w1 a len cap child rows (Rd.mono (fun k hk => ⟨hk, HB.out.block k (HF.out k hk)⟩) _ _ HR.out) HT.out (fun k hk => Nat.lt_of_lt_of_le (HF.out k hk) HB.out.size) (by omega) hlen hcl
        have HTK := Lib.hid ht
        clear ht
        go_wp2_with fail
        refine HTK.out.mono ?_
        rintro e w2 ⟨⟨g, c, rfl, hO⟩, hb2⟩
        obtain ⟨W3, hW3⟩ : ∃ W, W = w2.alloc (Obj.cells #[.slice (some ⟨g, 0, none⟩) len c] 24) := ⟨_, rfl⟩
        have b3 : Below w2.heap.size w2 W3 := by rw [hW3]; exact (Below.refl _ _).alloc (Nat.le_refl _) _
        have s3 : W3.heap.size = w2.heap.size + 1 := by rw [hW3, alloc_size]
        have d3 : W3.heap[w2.heap.size]? = some (.cells #[.slice (some ⟨g, 0, none⟩) len c] 24 (0, 0)) := by rw [hW3]; exact heap_alloc_new w2 _
        obtain ⟨xs, F4, J4, q1, q2, q3, q4, o5⟩ := id hO
        have o1 := ownsRow_below q1 b3
        have o2 : NodesV tab 116 3 F4 J4 W3 len (nodesRows rows + 64) xs := NodesV.mono (fun k hk => ⟨hk, (nw_below b3 (q3 k hk).1).2⟩) (fun k hk => ⟨hk, fun _ _ hi => hi.keep (b3.block k (q4 k hk).1.2)⟩) _ _ _ q2
        obtain ⟨pre, us, post, q, n1, n2, n3, n4, n5⟩ := NodesV.at len _ parent xs hpl o2
        obtain ⟨tag, v1, p, v3, l1, c1, l3, ats, rfl, m2, m3, m4, m5, m6, m7⟩ := n3
        obtain ⟨a3, k3, hv3⟩ : ∃ a3 k3, v3 = .slice a3 l3 k3 := by
          rcases m6 with ⟨h, h0⟩ | ⟨g3, k3, h, _⟩
          · exact ⟨none, 0, by rw [h, h0]⟩
          · exact ⟨_, _, h⟩
        subst hv3
        have gO : w1.heap.size ≤ g ∧ g < w2.heap.size := by
          have h := hO
          obtain ⟨_, _, _, h1, _⟩ := h
          rcases h1.2 with ⟨h, _⟩ | ⟨g', cap', cur, h, hb, hg, _⟩
          · cases h
          · injection h with h
            injection h with h
            injection h with h
            subst h
            exact ⟨hb, (Array.getElem?_eq_some_iff.1 hg).1⟩
        have hb12 : Below w.heap.size w W3 := (HB.out.trans (hb2.mono HB.out.size)).trans (b3.mono (by have := HB.out.size; have := hb2.size; omega))
        have cd : W3.cell? ⟨w2.heap.size, 0, none⟩ = some (.slice (some ⟨g, 0, none⟩) len c) := cell_of_row _ _ 0 _ _ _ d3
        have cP : W3.cell? ⟨g, parent * 4 + 3, none⟩ = some (.slice a3 l3 k3) := by
          rw [o1.cellAt _ (by omega), n1, List.getElem?_append_right (by omega), n2]
          simp
        have cP2 : w2.cell? ⟨g, parent * 4 + 3, none⟩ = some (.slice a3 l3 k3) := (World.cell?_of_block (w := W3) (w' := w2) (a := ⟨g, parent * 4 + 3, none⟩) (b3.block g gO.2).symm).trans cP
        have gO2 : g < w2.heap.size := gO.2
        have hl3 : l3 ≤ 1099511627776 := by omega
        have hix := index_int W3 (.slice a3 l3 k3) l3 k3 next (by
          rcases m6 with ⟨h, h0⟩ | ⟨g3, k3', h, _, hi⟩
          · exact .inl ⟨h, h0⟩
          · injection h with h _ h2; subst h h2; exact .inr ⟨g3, rfl, hi⟩) hl3
        have hins : ∀ (at_ : Nat) (W : World) (q : Nat), at_ ≤ l3 → Below W3.heap.size W3 W → W.heap[q]? = some (.cells #[.int .i64 child] 3 (0, 0)) → W3.heap.size ≤ q → Calls Tryz.prog 101 #[.slice a3 l3 k3, .int .i64 at_, .slice (some ⟨q, 0, none⟩) 1 1] W fun e w' => ∃ g' c', e = .returned (.slice (some ⟨g', 0, none⟩) (l3 + 1) c') ∧
            w1.heap.size ≤ g' ∧ IntsAt w' 3 g' (l3 + 1) c' ∧ Below w1.heap.size W3 w' ∧ (g' < W3.heap.size → J4 g') ∧ (∀ k, k < W3.heap.size → ¬ J4 k → w'.heap[k]? = W3.heap[k]?) ∧ ∀ k n c, IntsAt W3 3 k n c → IntsAt w' 3 k n c := by
          intro at_ W q hat hW hq hqs
          have hB3 : w1.heap.size ≤ W3.heap.size := by have := hb2.size; omega
          have hcase : (Value.slice a3 l3 k3 = .slice none 0 0 ∧ l3 = 0 ∧ k3 = 0) ∨ ∃ g3, Value.slice a3 l3 k3 = .slice (some ⟨g3, 0, none⟩) l3 k3 ∧ J4 g3 ∧ IntsAt W3 3 g3 l3 k3 := by
            rcases m6 with ⟨h, h0⟩ | ⟨g3, k3', h, hj, hi⟩
            · injection h with _ _ h2; exact .inl ⟨by rw [h0, h2] at *; simp_all, h0, h2⟩
            · injection h with h _ h2; subst h h2; exact .inr ⟨g3, rfl, hj, hi⟩
          refine (insert_kids W (.slice a3 l3 k3) w1.heap.size l3 k3 q at_ child (by
            rcases hcase with h | ⟨g3, h, hj, hi⟩
            · exact .inl h
            · have := hi.lt
              exact .inr ⟨g3, h, (q4 g3 hj).1.1, by omega, hi.keep (hW.block g3 this)⟩) hat (by have := hW.size; omega) hq (by rw [IntKind.wrap_i64]; omega) hl3).mono ?_
          rintro e w' ⟨g', c', rfl, e1, e2, e3, e4, e5, e6⟩
          have hJv : ∀ k, Value.slice a3 l3 k3 = .slice (some ⟨k, 0, none⟩) l3 k3 → J4 k := fun k hk => by
            rcases hcase with ⟨h, _⟩ | ⟨g3, h, hj, _⟩
            · rw [h] at hk; cases hk
            · rw [h] at hk; injection hk with hk; injection hk with hk; injection hk with hk; subst hk; exact hj
          exact ⟨g', c', rfl, e1, e2, (hW.mono hB3).trans e3, fun h => hJv _ (e4 (by have := hW.size; omega)), fun k hk hj => (e5 k (by have := hW.size; omega) (fun h => hj (hJv k h))).trans (hW.block k hk), fun k n c h => e6 k n c (h.keep (hW.block k h.lt))⟩
        have hw2 : w2.heap.size < W3.heap.size := by omega
        have hx3 : xs[parent * 4 + 3]? = some (.slice a3 l3 k3) := by rw [n1, List.getElem?_append_right (by omega), n2]; simp
        obtain ⟨p2, cC⟩ : ∃ p2, W3.cell? ⟨g, child * 4 + 2, none⟩ = some (.int .i64 p2) := by
          obtain ⟨pre2, us2, post2, q2, r1, r2, ⟨tag2, v12, p2, v32, l12, c12, l32, ats2, rfl, _⟩, _⟩ := NodesV.at len _ child xs hcl o2
          refine ⟨p2, ?_⟩
          rw [o1.cellAt _ (by omega), r1, List.getElem?_append_right (by omega), r2]
          simp
        have yW3 : W3.heap[w.heap.size + 1]? = some (.cells #[.slice none 0 0] 24 (0, 0)) := (b3.block _ (by have := HY.out.2.2; have := hb2.size; omega)).trans ((hb2.block _ (by have := HY.out.2.2; omega)).trans HY.out.2.1)
        have hfin : ∀ (w5 : World) (g' c' : Nat), w1.heap.size ≤ g' → IntsAt w5 3 g' (l3 + 1) c' → Below w1.heap.size W3 w5 → (g' < W3.heap.size → J4 g') → (∀ k, k < W3.heap.size → ¬ J4 k → w5.heap[k]? = W3.heap[k]?) → (∀ k n c, IntsAt W3 3 k n c → IntsAt w5 3 k n c) →
            OwnTree w.heap.size (nodesRows rows + 66) len g c (((w5.setCell ⟨g, parent * 4 + 3, none⟩ (.slice (some ⟨g', 0, none⟩) (l3 + 1) c')).setCell ⟨g, child * 4 + 2, none⟩ (.int .i64 parent)).setCell ⟨w.heap.size + 1, 0, none⟩ (.slice (some ⟨g, 0, none⟩) len c)) ∧
            Below w.heap.size w (((w5.setCell ⟨g, parent * 4 + 3, none⟩ (.slice (some ⟨g', 0, none⟩) (l3 + 1) c')).setCell ⟨g, child * 4 + 2, none⟩ (.int .i64 parent)).setCell ⟨w.heap.size + 1, 0, none⟩ (.slice (some ⟨g, 0, none⟩) len c)) ∧
            (((w5.setCell ⟨g, parent * 4 + 3, none⟩ (.slice (some ⟨g', 0, none⟩) (l3 + 1) c')).setCell ⟨g, child * 4 + 2, none⟩ (.int .i64 parent)).setCell ⟨w.heap.size + 1, 0, none⟩ (.slice (some ⟨g, 0, none⟩) len c)).cell? ⟨w.heap.size + 1, 0, none⟩ = some (.slice (some ⟨g, 0, none⟩) len c) := by
          intro w5 g' c' e1 e2 e3 e4 e5 e6
          have hy := HY.out.2.2
          have ngJ : ¬ J4 g := fun h => (q4 g h).2 rfl
          have hg5 := e5 g (by omega) ngJ
          have hy5 := e5 (w.heap.size + 1) (by omega) (fun h => by have := (q4 _ h).1.1; omega)
          have g'ne : g' ≠ g := by
            by_cases h : g' < W3.heap.size
            · exact fun e => ngJ (e ▸ e4 h)
            · omega
          have own5 : w5.ownsRow w1.heap.size 107 4 (.slice (some ⟨g, 0, none⟩) len c) len xs := by
            refine ⟨o1.1, ?_⟩
            rcases o1.2 with h | ⟨g2, cap2, cur, h, hb, hg, hrest⟩
            · exact .inl h
            · have hgg : g2 = g := by injection h with h; injection h with h; injection h with h; exact h.symm
              subst hgg
              exact .inr ⟨g2, cap2, cur, h, hb, hg5.trans hg, hrest⟩
          have own6 := (own5.stored (parent * 4 + 3) (.slice (some ⟨g', 0, none⟩) (l3 + 1) c')).1
          have own7 := (own6.stored (child * 4 + 2) (.int .i64 parent)).1
          obtain ⟨X1, hX1⟩ : ∃ X, X = (w5.setCell ⟨g, parent * 4 + 3, none⟩ (.slice (some ⟨g', 0, none⟩) (l3 + 1) c')).setCell ⟨g, child * 4 + 2, none⟩ (.int .i64 parent) := ⟨_, rfl⟩
          rw [← hX1] at own7 ⊢
          obtain ⟨X2, hX2⟩ : ∃ X, X = X1.setCell ⟨w.heap.size + 1, 0, none⟩ (.slice (some ⟨g, 0, none⟩) len c) := ⟨_, rfl⟩
          have own8 : X2.ownsRow w1.heap.size 107 4 (.slice (some ⟨g, 0, none⟩) len c) len ((xs.set (parent * 4 + 3) (.slice (some ⟨g', 0, none⟩) (l3 + 1) c')).set (child * 4 + 2) (.int .i64 parent)) := by rw [hX2]; exact ownsRow_setCell_below own7 (by show w.heap.size + 1 < w1.heap.size; omega) _
          rw [← hX2]
          have k1 : ∀ k, k ≠ g → X1.heap[k]? = w5.heap[k]? := fun k hk => by
            rw [hX1]; exact (Below.heap_setCell _ _ _ _ hk).trans (Below.heap_setCell _ _ _ _ hk)
          have k2 : ∀ k, k ≠ g → k ≠ w.heap.size + 1 → X2.heap[k]? = w5.heap[k]? := fun k hk hk2 => by
            rw [hX2]; exact (Below.heap_setCell _ _ _ _ hk2).trans (k1 k hk)
          have sz : X2.heap.size = w5.heap.size := by rw [hX2, setCell_size, hX1, setCell_size, setCell_size]
          have y5 : X1.heap[w.heap.size + 1]? = some (.cells #[.slice none 0 0] 24 (0, 0)) := (k1 _ (by omega)).trans (hy5.trans yW3)
          have bEnd : Below w.heap.size w X2 := by
            have b5 : Below w.heap.size w w5 := hb12.trans (e3.mono (by omega))
            rw [hX2, hX1]
            exact ((b5.setCell (by show w.heap.size ≤ g; omega) _).setCell (by show w.heap.size ≤ g; omega) _).setCell (by show w.heap.size ≤ w.heap.size + 1; omega) _
          refine ⟨?_, bEnd, by rw [hX2]; exact cell_of_row _ _ 0 _ _ _ (setCell_one y5)⟩
          have fOld : ∀ k, F4 k → X2.heap[k]? = W3.heap[k]? ∧ k < W3.heap.size := fun k hk => by
            have h1 := q3 k hk
            have h2 := h1.1.1
            have h3 := h1.1.2.1
            exact ⟨(k2 k h1.2 (by omega)).trans (e5 k (by omega) (o5 k hk)), by omega⟩
          have jNe : ∀ k, J4 k → k ≠ g ∧ k ≠ w.heap.size + 1 ∧ k < w5.heap.size := fun k hk => by
            have h1 := q4 k hk
            have h2 := h1.1.1
            have h3 := h1.1.2
            have := e3.size
            exact ⟨h1.2, by omega, by omega⟩
          have n5 : NodesV tab 116 3 F4 (fun k => J4 k ∨ k = g') X2 len (nodesRows rows + 64) xs := NodesV.mono (fun k hk => ⟨hk, (fOld k hk).1⟩) (fun k hk => ⟨.inl hk, fun n c h => (e6 k n c h).keep (k2 k (jNe k hk).1 (jNe k hk).2.1)⟩) _ _ _ o2
          have i8 : IntsAt X2 3 g' (l3 + 1) c' := e2.keep (k2 g' g'ne (by omega))
          obtain ⟨pre, us, post, q, r1, r2, r3, r4, r5⟩ := NodesV.at len _ parent xs hpl n5
          obtain ⟨tag5, v15, p5, v35, l15, c15, l35, ats5, rfl, t2, t3, t4, t5, t6, t7⟩ := r3
          have hv35 : v35 = .slice a3 l3 k3 := by
            have h := hx3
            rw [r1, List.getElem?_append_right (by omega), r2] at h
            simpa using h
          have hl35 : l35 = l3 := by
            rcases t6 with ⟨h, h0⟩ | ⟨g3, k3', h, _⟩
            · rw [hv35] at h; injection h with _ h; omega
            · rw [hv35] at h; injection h with _ h; omega
          have n6 := r5 [.string tag5, v15, .int .i64 p5, .slice (some ⟨g', 0, none⟩) (l3 + 1) c'] (q + 2) ⟨tag5, v15, p5, _, l15, c15, l3 + 1, ats5, rfl, t2, t3, t4, t5, .inr ⟨g', c', rfl, .inr rfl, i8⟩, by omega⟩
          have hs6 : xs.set (parent * 4 + 3) (.slice (some ⟨g', 0, none⟩) (l3 + 1) c') = pre ++ ([.string tag5, v15, .int .i64 p5, .slice (some ⟨g', 0, none⟩) (l3 + 1) c'] ++ post) := by
            rw [r1, List.set_append_right _ _ (by omega), r2]
            simp
          rw [← hs6] at n6
          obtain ⟨pre2, us2, post2, q2, u1, u2, u3, u4, u5⟩ := NodesV.at len _ child _ hcl n6
          obtain ⟨tag6, v16, p6, v36, l16, c16, l36, ats6, rfl, z2, z3, z4, z5, z6, z7⟩ := u3
          have n7 := u5 [.string tag6, v16, .int .i64 parent, v36] q2 ⟨tag6, v16, parent, v36, l16, c16, l36, ats6, rfl, z2, by rw [IntKind.wrap_i64]; omega, z4, z5, z6, z7⟩
          have hs7 : (xs.set (parent * 4 + 3) (.slice (some ⟨g', 0, none⟩) (l3 + 1) c')).set (child * 4 + 2) (.int .i64 parent) = pre2 ++ ([.string tag6, v16, .int .i64 parent, v36] ++ post2) := by
            rw [u1, List.set_append_right _ _ (by omega), u2]
            simp
          rw [← hs7] at n7
          have i8lt := i8.lt
          refine ⟨_, F4, fun k => J4 k ∨ k = g', ⟨own8.1, ?_⟩, NodesV.more _ _ _ _ (by omega) n7, fun k hk => ?_, fun k hk => ?_, fun k hk hj => ?_⟩
          · rcases own8.2 with h | ⟨g2, cap2, cur, h, hb, hh⟩
            · exact .inl h
            · exact .inr ⟨g2, cap2, cur, h, by omega, hh⟩
          · obtain ⟨⟨h1, h2, cc, e, h3⟩, h4⟩ := q3 k hk
            exact ⟨⟨by omega, by rw [sz]; have := e3.size; omega, cc, e, (fOld k hk).1.trans ((b3.block k h2).trans h3)⟩, h4⟩
          · rcases hk with hk | rfl
            · obtain ⟨⟨h1, h2⟩, h4⟩ := q4 k hk
              exact ⟨⟨by omega, by rw [sz]; have := e3.size; omega⟩, h4⟩
            · exact ⟨⟨by omega, i8lt⟩, g'ne⟩
          · rcases hj with hj | rfl
            · exact o5 k hk hj
            · by_cases h : k < W3.heap.size
              · exact o5 k hk (e4 h)
              · have := (fOld k hk).2; omega
        have HFIN := Lib.hid hfin
        have HC5 := Lib.hid (And.intro cC yW3)
        have HINS := Lib.hid hins
        have HIX := Lib.hid hix
        have HW3 := Lib.hid hW3
        have HO := Lib.hid (And.intro o1 (And.intro o2 (And.intro q3 (And.intro q4 (And.intro o5 (And.intro n1 n2))))))
        have HM := Lib.hid (And.intro m2 (And.intro m3 (And.intro m4 (And.intro m5 (And.intro m6 m7)))))
        have HN := Lib.hid (And.intro n4 n5)
        have HQ := Lib.hid (And.intro hb12 (And.intro b3 (And.intro s3 (And.intro d3 hb2))))
        clear hix hins hfin cC yW3 hx3 hW3 q1 q2 q3 q4 o1 o2 o5 n1 n2 m2 m3 m4 m5 m6 m7 n4 n5 hO hb12 b3 s3 d3 hb2
        go_wp2_with fail
        rw [← HW3.out]
        refine HIX.out.mono ?_
        rintro e w4 ⟨⟨i, rfl, hi1, hi2⟩, hw4⟩
        obtain rfl := hw4.symm
        have ne1 : g ≠ w2.heap.size := by omega
        by_cases hi0 : i < 0
        case pos =>
          have hat : l3 ≤ l3 := Nat.le_refl _
          go_wp2_with fail
          go_region_with (go_at_call 101; refine (HINS.out l3 _ W3.heap.size hat ?_ ?_ (Nat.le_refl _)).mono ?_; (repeat (first | exact Below.refl _ _ | refine below_drew ?_ | refine below_drewN ?_ _ | refine below_alloc _ ?_ (by simp))); exact heap_alloc_new W3 _; rintro e w5 ⟨g', c', rfl, e1, e2, e3, e4, e5, e6⟩; have hd5 := (e5 w2.heap.size hw2 (fun h => by have := (HO.out.2.2.2.1 _ h).1.2; omega)).trans HQ.out.2.2.2.1; have cd5 : w5.cell? ⟨w2.heap.size, 0, none⟩ = some (.slice (some ⟨g, 0, none⟩) len c) := cell_of_row _ _ 0 _ _ _ hd5; have hg5 := e5 g (by omega) (fun h => (HO.out.2.2.2.1 _ h).2 rfl); have cP5 : w5.cell? ⟨g, parent * 4 + 3, none⟩ = some (.slice a3 l3 k3) := (World.cell?_of_block (w := W3) hg5).trans cP; have fP5 : w5.frozen? ⟨g, parent * 4 + 3, none⟩ = false := (World.frozen?_of_block (w := W3) hg5).trans (HO.out.1.frozenAt _))
          all_goals
            have hc5 : w5.cell? ⟨g, child * 4 + 2, none⟩ = some (.int .i64 p2) := (World.cell?_of_block (w := W3) hg5).trans HC5.out.1
            have fc5 : w5.frozen? ⟨g, child * 4 + 2, none⟩ = false := (World.frozen?_of_block (w := W3) hg5).trans (HO.out.1.frozenAt _)
            have hr5 := (e5 (w.heap.size + 1) (by have := HY.out.2.2; omega) (fun h => by have := (HO.out.2.2.2.1 _ h).1.1; have := HY.out.2.2; omega)).trans HC5.out.2
            have cr5 : w5.cell? ⟨w.heap.size + 1, 0, none⟩ = some (.slice none 0 0) := cell_of_row _ _ 0 _ _ _ hr5
            have fr5 : w5.frozen? ⟨w.heap.size + 1, 0, none⟩ = false := by simp [World.frozen?, hr5]
            have ne2 : parent * 4 + 3 ≠ child * 4 + 2 := by omega
            have ne3 : child * 4 + 2 ≠ parent * 4 + 3 := by omega
            have ne4 : g ≠ w.heap.size + 1 := by have := HY.out.2.2; omega
            obtain ⟨z1, z2, z3⟩ := HFIN.out w5 g' c' e1 e2 e3 e4 e5 e6
            have HZ := Lib.hid (And.intro z1 (And.intro z2 z3))
            clear z1 z2 z3 hr5 hd5 hg5 e2 e3 e5 e6
            go_wp2_with fail
            obtain ⟨z1, z2, z3⟩ := HZ.out
            obtain ⟨len', cap', rows', k1, k2, k3⟩ := z1.new
            exact bodyPost_ret (v := .tuple #[.agg #[.slice (some ⟨g, 0, none⟩) len c], .int .i64 0]) (by simp [results, Tryz.results75, go_sem, z3]) rfl ⟨⟨_, 0, rfl, len', cap', rows', k1, k2, by omega⟩, z2⟩
        case neg =>
          obtain ⟨at_, rfl⟩ : ∃ n : Nat, i = n := ⟨i.toNat, by omega⟩
          have hat : at_ ≤ l3 := by omega
          have hi3 : decide ((at_ : Int) < 0) = false := by simp
          have hi4 : ¬ ((at_ : Int) < 0) := by omega
          go_wp2_with fail
          go_region_with (go_at_call 101; refine (HINS.out _ _ W3.heap.size hat ?_ ?_ (Nat.le_refl _)).mono ?_; (repeat (first | exact Below.refl _ _ | refine below_drew ?_ | refine below_drewN ?_ _ | refine below_alloc _ ?_ (by simp))); exact heap_alloc_new W3 _; rintro e w5 ⟨g', c', rfl, e1, e2, e3, e4, e5, e6⟩; have hd5 := (e5 w2.heap.size hw2 (fun h => by have := (HO.out.2.2.2.1 _ h).1.2; omega)).trans HQ.out.2.2.2.1; have cd5 : w5.cell? ⟨w2.heap.size, 0, none⟩ = some (.slice (some ⟨g, 0, none⟩) len c) := cell_of_row _ _ 0 _ _ _ hd5; have hg5 := e5 g (by omega) (fun h => (HO.out.2.2.2.1 _ h).2 rfl); have cP5 : w5.cell? ⟨g, parent * 4 + 3, none⟩ = some (.slice a3 l3 k3) := (World.cell?_of_block (w := W3) hg5).trans cP; have fP5 : w5.frozen? ⟨g, parent * 4 + 3, none⟩ = false := (World.frozen?_of_block (w := W3) hg5).trans (HO.out.1.frozenAt _))
          all_goals
            have hc5 : w5.cell? ⟨g, child * 4 + 2, none⟩ = some (.int .i64 p2) := (World.cell?_of_block (w := W3) hg5).trans HC5.out.1
            have fc5 : w5.frozen? ⟨g, child * 4 + 2, none⟩ = false := (World.frozen?_of_block (w := W3) hg5).trans (HO.out.1.frozenAt _)
            have hr5 := (e5 (w.heap.size + 1) (by have := HY.out.2.2; omega) (fun h => by have := (HO.out.2.2.2.1 _ h).1.1; have := HY.out.2.2; omega)).trans HC5.out.2
            have cr5 : w5.cell? ⟨w.heap.size + 1, 0, none⟩ = some (.slice none 0 0) := cell_of_row _ _ 0 _ _ _ hr5
            have fr5 : w5.frozen? ⟨w.heap.size + 1, 0, none⟩ = false := by simp [World.frozen?, hr5]
            have ne2 : parent * 4 + 3 ≠ child * 4 + 2 := by omega
            have ne3 : child * 4 + 2 ≠ parent * 4 + 3 := by omega
            have ne4 : g ≠ w.heap.size + 1 := by have := HY.out.2.2; omega
            obtain ⟨z1, z2, z3⟩ := HFIN.out w5 g' c' e1 e2 e3 e4 e5 e6
            have HZ := Lib.hid (And.intro z1 (And.intro z2 z3))
            clear z1 z2 z3 hr5 hd5 hg5 e2 e3 e5 e6
            go_wp2_with fail
            obtain ⟨z1, z2, z3⟩ := HZ.out
            obtain ⟨len', cap', rows', k1, k2, k3⟩ := z1.new
            exact bodyPost_ret (v := .tuple #[.agg #[.slice (some ⟨g, 0, none⟩) len c], .int .i64 0]) (by simp [results, Tryz.results75, go_sem, z3]) rfl ⟨⟨_, 0, rfl, len', cap', rows', k1, k2, by omega⟩, z2⟩
end Go.Proofs.YtomnkglnbmnmpaaGreatDoor
