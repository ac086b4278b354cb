/- mutate.append and mutate.Take: a tree in new memory, or none. -/
import Derived.Test.YtomnkglnbmnmpaaGreatDoorAppended
import Derived.WalkKit
import Derived.WalkSpells
import Derived.WalkLawsBesides
namespace Go.Proofs.YtomnkglnbmnmpaaGreatDoor
open Go.RowKit Go.Vt Go.Proofs
set_option maxRecDepth 100000 in
set_option maxHeartbeats 4000000 in
/-- mutate.Append. -/
theorem append_ok (F : Nat → Prop) (w : World) (a : Option Addr) (len cap : Nat) (rows : List (List C)) (parent child : Int) (hr : Rd F w (.sl 4 len cap rows) (.slice a len cap)) (ht : HtRows tab [.str, .sl 116, .int .i64, .sl 3] rows) (hF : ∀ k, F k → k < w.heap.size) (hnn : nodesRows rows ≤ 900000000000) :
    Calls Tryz.prog 11 #[.agg #[.slice a len cap], .int .i64 parent, .int .i64 child] w fun e w' => PutP w.heap.size (nodesRows rows + 100) e w' ∧ Below w.heap.size w w' := by
  obtain ⟨W0, hW0⟩ : ∃ W, W = (w.alloc (Obj.cells #[.slice a len cap] 24)).alloc (Obj.cells #[.slice none 0 0] 24) := ⟨_, rfl⟩
  have s0 : W0.heap.size = w.heap.size + 2 := by rw [hW0, alloc_size, alloc_size]
  have b0 : Below w.heap.size w W0 := by rw [hW0]; exact ((Below.refl _ _).alloc (Nat.le_refl _) _).alloc (by rw [alloc_size]; omega) _
  have x0 : W0.heap[w.heap.size]? = some (.cells #[.slice a len cap] 24 (0, 0)) := by rw [hW0]; exact (Below.heap_alloc _ _ _ (by rw [alloc_size]; omega)).trans (heap_alloc_new w _)
  have y0 : W0.heap[w.heap.size + 1]? = some (.cells #[.slice none 0 0] 24 (0, 0)) := by
    rw [hW0]; have := heap_alloc_new (w.alloc (Obj.cells #[.slice a len cap] 24)) (Obj.cells #[.slice none 0 0] 24); rwa [alloc_size] at this
  have hc := mcheck_ok F W0 (.slice a len cap) len cap rows child parent (Rd.mono (fun k hk => ⟨hk, b0.block k (hF k hk)⟩) _ _ hr) ht (fun k hk => by have := hF k hk; omega) (by omega)
  have c0 : W0.cell? ⟨w.heap.size, 0, none⟩ = some (.slice a len cap) := cell_of_row _ _ 0 _ _ _ x0
  have HC := Lib.hid hc
  have HW := Lib.hid hW0
  have HR := Lib.hid hr
  have HT := Lib.hid ht
  have HF := Lib.hid hF
  have HB0 := Lib.hid b0
  have HX := Lib.hid (And.intro x0 (And.intro y0 s0))
  clear hc hr ht hF b0 x0 y0 s0 hW0
  go_enter Tryz.func11, Tryz.ntmps11
  go_wp2_with fail
  rw [← HW.out]
  go_wp2_with fail
  refine HC.out.mono ?_
  rintro e w1 ⟨⟨n, rfl, hn⟩, hb1⟩
  have hb := HB0.out.trans (hb1.mono HB0.out.size)
  have x1 : w1.heap[w.heap.size]? = some (.cells #[.slice a len cap] 24 (0, 0)) := (hb1.block _ (by have := HX.out.2.2; omega)).trans HX.out.1
  have y1 : w1.heap[w.heap.size + 1]? = some (.cells #[.slice none 0 0] 24 (0, 0)) := (hb1.block _ (by have := HX.out.2.2; omega)).trans HX.out.2.1
  have s1 : w.heap.size + 2 ≤ w1.heap.size := by have := HX.out.2.2; have := hb1.size; omega
  have ca : w1.cell? ⟨w.heap.size, 0, none⟩ = some (.slice a len cap) := cell_of_row _ _ 0 _ _ _ x1
  have cr : w1.cell? ⟨w.heap.size + 1, 0, none⟩ = some (.slice none 0 0) := cell_of_row _ _ 0 _ _ _ y1
  have fr : w1.frozen? ⟨w.heap.size + 1, 0, none⟩ = false := by simp [World.frozen?, y1]
  have e0 : (w1.setCell ⟨w.heap.size + 1, 0, none⟩ (.slice none 0 0)).cell? ⟨w.heap.size + 1, 0, none⟩ = some (.slice none 0 0) := cell_of_row _ _ 0 _ _ _ (setCell_one y1)
  have hE := hb.setCell (p := ⟨w.heap.size + 1, 0, none⟩) (by simp) (.slice none 0 0)
  have HB := Lib.hid hb
  have HE := Lib.hid (And.intro e0 hE)
  have HY := Lib.hid (And.intro x1 (And.intro y1 s1))
  have HN := Lib.hid hn
  clear c0 HW HC hb1 HB0 hb x1 y1 s1 e0 hE HX hn
  by_cases hn0 : n = 0
  case neg =>
    have hm1 : (n != 0) = true := by simp [hn0]
    go_wp2_with fail
    refine bodyPost_ret (v := .tuple #[.agg #[.slice none 0 0], .int .i64 n]) (by simp [results, Tryz.results11, go_sem, HE.out.1]) rfl ⟨⟨_, n, rfl, tree_none⟩, HE.out.2⟩
  case pos =>
    subst hn0
    obtain ⟨hG, q1, q2, q3, q4⟩ := HN.out (by first | trivial | rfl)
    obtain ⟨pn, rfl⟩ : ∃ pn : Nat, parent = pn := ⟨parent.toNat, by omega⟩
    obtain ⟨cn, rfl⟩ : ∃ cn : Nat, child = cn := ⟨child.toNat, by omega⟩
    have hp := put_ok F w1 a len cap pn cn (-1) rows (Rd.mono (fun k hk => ⟨hk, HB.out.block k (HF.out k hk)⟩) _ _ HR.out) HT.out (fun k hk => Nat.lt_of_lt_of_le (HF.out k hk) HB.out.size) (by omega) hG.l2 (by omega) (by omega)
    clear hG
    have HP := Lib.hid hp
    clear hp
    go_wp2_with fail
    refine HP.out.mono ?_
    rintro e w2 ⟨⟨v, n, rfl, len', cap', rows', k1, k2, k3⟩, hb2⟩
    obtain ⟨a2, hv⟩ : ∃ a2, v = .slice a2 len' cap' := by have h := k1; simp only [Rd] at h; obtain ⟨a2, h, _⟩ := h; exact ⟨a2, h⟩
    subst hv
    have y2 : w2.heap[w.heap.size + 1]? = some (.cells #[.slice none 0 0] 24 (0, 0)) := (hb2.block _ (by have := HY.out.2.2; omega)).trans HY.out.2.1
    have cr2 : w2.cell? ⟨w.heap.size + 1, 0, none⟩ = some (.slice none 0 0) := cell_of_row _ _ 0 _ _ _ y2
    have fr2 : w2.frozen? ⟨w.heap.size + 1, 0, none⟩ = false := by simp [World.frozen?, y2]
    have hfin : (w2.setCell ⟨w.heap.size + 1, 0, none⟩ (.slice a2 len' cap')).cell? ⟨w.heap.size + 1, 0, none⟩ = some (.slice a2 len' cap') := cell_of_row _ _ 0 _ _ _ (setCell_one y2)
    have hkeep : Rd (Nw w.heap.size (w2.setCell ⟨w.heap.size + 1, 0, none⟩ (.slice a2 len' cap'))) (w2.setCell ⟨w.heap.size + 1, 0, none⟩ (.slice a2 len' cap')) (.sl 4 len' cap' rows') (.slice a2 len' cap') := by
      refine Rd.mono (fun k hk => ?_) _ _ k1
      obtain ⟨h1, h2, cc, e, h3⟩ := hk
      have hk : (w2.setCell ⟨w.heap.size + 1, 0, none⟩ (.slice a2 len' cap')).heap[k]? = w2.heap[k]? := Below.heap_setCell _ _ _ _ (by show k ≠ w.heap.size + 1; have := HY.out.2.2; omega)
      exact ⟨⟨by have := HY.out.2.2; omega, by rw [setCell_size]; exact h2, cc, e, hk.trans h3⟩, hk⟩
    have bEnd : Below w.heap.size w (w2.setCell ⟨w.heap.size + 1, 0, none⟩ (.slice a2 len' cap')) := (HB.out.trans (hb2.mono HB.out.size)).setCell (by simp) _
    have HZ := Lib.hid (And.intro hfin (And.intro hkeep bEnd))
    clear hfin hkeep bEnd k1 y2 hb2
    go_wp2_with fail
    exact bodyPost_ret (v := .tuple #[.agg #[.slice a2 len' cap'], .int .i64 n]) (by simp [results, Tryz.results11, go_sem, HZ.out.1]) rfl ⟨⟨_, n, rfl, len', cap', rows', HZ.out.2.1, k2, by omega⟩, HZ.out.2.2⟩
end Go.Proofs.YtomnkglnbmnmpaaGreatDoor
namespace Go.Proofs.YtomnkglnbmnmpaaGreatDoor
open Go.RowKit Go.Vt Go.Proofs
set_option maxRecDepth 100000 in
set_option maxHeartbeats 4000000 in
/-- mutate.Take. -/
theorem take_ok (F : Nat → Prop) (w : World) (a : Option Addr) (len cap : Nat) (rows : List (List C)) (child : Int) (hr : Rd F w (.sl 4 len cap rows) (.slice a len cap)) (ht : HtRows tab [.str, .sl 116, .int .i64, .sl 3] rows) (hF : ∀ k, F k → k < w.heap.size) (hnn : nodesRows rows ≤ 900000000000) :
    Calls Tryz.prog 18 #[.agg #[.slice a len cap], .int .i64 child] w fun e w' => PutP w.heap.size (nodesRows rows + 100) e w' ∧ Below w.heap.size w w' := by
  obtain ⟨W0, hW0⟩ : ∃ W, W = (w.alloc (Obj.cells #[.slice a len cap] 24)).alloc (Obj.cells #[.slice none 0 0] 24) := ⟨_, rfl⟩
  have s0 : W0.heap.size = w.heap.size + 2 := by rw [hW0, alloc_size, alloc_size]
  have b0 : Below w.heap.size w W0 := by rw [hW0]; exact ((Below.refl _ _).alloc (Nat.le_refl _) _).alloc (by rw [alloc_size]; omega) _
  have x0 : W0.heap[w.heap.size]? = some (.cells #[.slice a len cap] 24 (0, 0)) := by rw [hW0]; exact (Below.heap_alloc _ _ _ (by rw [alloc_size]; omega)).trans (heap_alloc_new w _)
  have y0 : W0.heap[w.heap.size + 1]? = some (.cells #[.slice none 0 0] 24 (0, 0)) := by
    rw [hW0]; have := heap_alloc_new (w.alloc (Obj.cells #[.slice a len cap] 24)) (Obj.cells #[.slice none 0 0] 24); rwa [alloc_size] at this
  have hc := mcheck_ok F W0 (.slice a len cap) len cap rows child child (Rd.mono (fun k hk => ⟨hk, b0.block k (hF k hk)⟩) _ _ hr) ht (fun k hk => by have := hF k hk; omega) (by omega)
  have c0 : W0.cell? ⟨w.heap.size, 0, none⟩ = some (.slice a len cap) := cell_of_row _ _ 0 _ _ _ x0
  have HC := Lib.hid hc
  have HW := Lib.hid hW0
  have HR := Lib.hid hr
  have HT := Lib.hid ht
  have HF := Lib.hid hF
  have HB0 := Lib.hid b0
  have HX := Lib.hid (And.intro x0 (And.intro y0 s0))
  clear hc hr ht hF b0 x0 y0 s0 hW0
  go_enter Tryz.func18, Tryz.ntmps18
  go_wp2_with fail
  rw [← HW.out]
  go_wp2_with fail
  refine HC.out.mono ?_
  rintro e w1 ⟨⟨n, rfl, hn⟩, hb1⟩
  have hb := HB0.out.trans (hb1.mono HB0.out.size)
  have x1 : w1.heap[w.heap.size]? = some (.cells #[.slice a len cap] 24 (0, 0)) := (hb1.block _ (by have := HX.out.2.2; omega)).trans HX.out.1
  have y1 : w1.heap[w.heap.size + 1]? = some (.cells #[.slice none 0 0] 24 (0, 0)) := (hb1.block _ (by have := HX.out.2.2; omega)).trans HX.out.2.1
  have s1 : w.heap.size + 2 ≤ w1.heap.size := by have := HX.out.2.2; have := hb1.size; omega
  have ca : w1.cell? ⟨w.heap.size, 0, none⟩ = some (.slice a len cap) := cell_of_row _ _ 0 _ _ _ x1
  have cr : w1.cell? ⟨w.heap.size + 1, 0, none⟩ = some (.slice none 0 0) := cell_of_row _ _ 0 _ _ _ y1
  have fr : w1.frozen? ⟨w.heap.size + 1, 0, none⟩ = false := by simp [World.frozen?, y1]
  have e0 : (w1.setCell ⟨w.heap.size + 1, 0, none⟩ (.slice none 0 0)).cell? ⟨w.heap.size + 1, 0, none⟩ = some (.slice none 0 0) := cell_of_row _ _ 0 _ _ _ (setCell_one y1)
  have hE := hb.setCell (p := ⟨w.heap.size + 1, 0, none⟩) (by simp) (.slice none 0 0)
  have HB := Lib.hid hb
  have HE := Lib.hid (And.intro e0 hE)
  have HY := Lib.hid (And.intro x1 (And.intro y1 s1))
  have HN := Lib.hid hn
  clear c0 HW HC hb1 HB0 hb x1 y1 s1 e0 hE HX hn
  by_cases hn0 : n = 0
  case neg =>
    have hm1 : (n != 0) = true := by simp [hn0]
    go_wp2_with fail
    refine bodyPost_ret (v := .tuple #[.agg #[.slice none 0 0], .int .i64 n]) (by simp [results, Tryz.results18, go_sem, HE.out.1]) rfl ⟨⟨_, n, rfl, tree_none⟩, HE.out.2⟩
  case pos =>
    subst hn0
    obtain ⟨hG, q1, q2, q3, q4⟩ := HN.out (by first | trivial | rfl)
    obtain ⟨cn, rfl⟩ : ∃ cn : Nat, child = cn := ⟨child.toNat, by omega⟩
    obtain ⟨a0, b, o, ha0, h2, h3⟩ := row_at HR.out HF.out
    obtain rfl : a0 = a := by injection ha0 with ha0; exact ha0.symm
    have hrk : rows[cn]? = some (rows[cn]'(by omega)) := List.getElem?_eq_getElem _
    generalize rows[cn]'(by omega) = rk at hrk
    obtain ⟨rfl, _, hbl, hrd⟩ := h3 cn rk hrk
    obtain ⟨_, _, _, _, _, pp, _, _, _, _, rfl, _, _, _, _, _, _, n2, _⟩ := node_at hrk HT.out hrd
    have hpp : par rows cn = pp := by simp only [par, hrk]; rfl
    have q5 := (HB.out.cell (p := ⟨b, o + cn * 4 + 2, none⟩) hbl).trans n2
    have hpr := hG.pr cn (by omega)
    rw [hpp] at hpr
    obtain ⟨g1, g2⟩ := hpr
    clear n2 hrd hrk hpp h3
    have l2 := hG.l2
    clear hG
    by_cases hneg : pp < 0
    case pos =>
        go_wp2_with fail
        exact bodyPost_ret (v := .tuple #[.agg #[.slice none 0 0], .int .i64 6]) (by simp [results, Tryz.results18, go_sem, HE.out.1]) rfl ⟨⟨_, 6, rfl, tree_none⟩, HE.out.2⟩
    case neg =>
        have hp := taken_ok F w1 (some ⟨b, o, none⟩) len cap cn rows (Rd.mono (fun k hk => ⟨hk, HB.out.block k (HF.out k hk)⟩) _ _ HR.out) HT.out (fun k hk => Nat.lt_of_lt_of_le (HF.out k hk) HB.out.size) (by omega) l2 (by omega)
        have HP := Lib.hid hp
        clear hp
        go_wp2_with fail
        refine HP.out.mono ?_
        rintro e w2 ⟨⟨g, c, rfl, k0⟩, hb2⟩
        obtain ⟨len', cap', rows', k1, k2, k3⟩ := k0.new
        have y2 : w2.heap[w.heap.size + 1]? = some (.cells #[.slice none 0 0] 24 (0, 0)) := (hb2.block _ (by have := HY.out.2.2; omega)).trans HY.out.2.1
        have cr2 : w2.cell? ⟨w.heap.size + 1, 0, none⟩ = some (.slice none 0 0) := cell_of_row _ _ 0 _ _ _ y2
        have fr2 : w2.frozen? ⟨w.heap.size + 1, 0, none⟩ = false := by simp [World.frozen?, y2]
        have hfin : (w2.setCell ⟨w.heap.size + 1, 0, none⟩ (.slice (some ⟨g, 0, none⟩) len c)).cell? ⟨w.heap.size + 1, 0, none⟩ = some (.slice (some ⟨g, 0, none⟩) len c) := cell_of_row _ _ 0 _ _ _ (setCell_one y2)
        have hkeep : Rd (Nw w.heap.size (w2.setCell ⟨w.heap.size + 1, 0, none⟩ (.slice (some ⟨g, 0, none⟩) len c))) (w2.setCell ⟨w.heap.size + 1, 0, none⟩ (.slice (some ⟨g, 0, none⟩) len c)) (.sl 4 len' cap' rows') (.slice (some ⟨g, 0, none⟩) len c) := by
          refine Rd.mono (fun k hk => ?_) _ _ k1
          obtain ⟨h1, h2, cc, e, h3⟩ := hk
          have hk : (w2.setCell ⟨w.heap.size + 1, 0, none⟩ (.slice (some ⟨g, 0, none⟩) len c)).heap[k]? = w2.heap[k]? := Below.heap_setCell _ _ _ _ (by show k ≠ w.heap.size + 1; have := HY.out.2.2; omega)
          exact ⟨⟨by have := HY.out.2.2; omega, by rw [setCell_size]; exact h2, cc, e, hk.trans h3⟩, hk⟩
        have bEnd : Below w.heap.size w (w2.setCell ⟨w.heap.size + 1, 0, none⟩ (.slice (some ⟨g, 0, none⟩) len c)) := (HB.out.trans (hb2.mono HB.out.size)).setCell (by simp) _
        have HZ := Lib.hid (And.intro hfin (And.intro hkeep bEnd))
        clear hfin hkeep bEnd k1 k0 y2 hb2
        go_wp2_with fail
        exact bodyPost_ret (v := .tuple #[.agg #[.slice (some ⟨g, 0, none⟩) len c], .int .i64 0]) (by simp [results, Tryz.results18, go_sem, HZ.out.1]) rfl ⟨⟨_, 0, rfl, len', cap', rows', HZ.out.2.1, k2, by omega⟩, HZ.out.2.2⟩
end Go.Proofs.YtomnkglnbmnmpaaGreatDoor
