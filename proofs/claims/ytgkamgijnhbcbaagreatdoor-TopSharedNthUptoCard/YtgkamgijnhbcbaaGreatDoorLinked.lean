/- tree.linked: where it is true the parent lies in the tree. -/
import Derived.Test.YtgkamgijnhbcbaaGreatDoorNodeIndex
import Derived.WalkKit
import Derived.WalkSpells
import Derived.WalkLawsBesides
import Derived.Deep.QuietTactic
import Derived.BigQuiet
namespace Go.Proofs.YtgkamgijnhbcbaaGreatDoor
open Go.RowKit Go.Vt Go.Proofs
def parOf : List C → Int
  | [_, _, .int _ p, _] => p
  | _ => -1
theorem zinfo4 : (Tryz.prog.info? 4).map (fun i => (i.zero, i.size, i.bytes)) = some (some (.bool false), 1, 1) := by kernel_rfl
theorem ht_slE {E : Nat} {c : C} (h : Ht tab (.sl E) c) : ∃ len cap rows, c = .sl (tab E).length len cap rows ∧ HtRows tab (tab E) rows := by
  obtain ⟨sz, len, cap, rows, rfl⟩ := ht_sl h
  simp only [Ht] at h
  obtain ⟨e, he, h1, h2⟩ := h
  injection he with he; subst he; subst h1
  exact ⟨len, cap, rows, rfl, h2⟩
/-- Node i: its cells. -/
theorem node_at {F : Nat → Prop} {w : World} {b o i : Nat} {rows : List (List C)} {r : List C} (hr : rows[i]? = some r) (ht : HtRows tab [.str, .sl 201, .int .i64, .sl 3] rows) (h : RdRow F w b (o + i * 4) r) :
    ∃ tag at_ lat kat ats p ac lc cc rc, r = [.str tag, .sl 2 lat kat ats, .int .i64 p, .sl 1 lc cc rc] ∧ Rd F w (.sl 2 lat kat ats) (.slice at_ lat kat) ∧ HtRows tab [.str, .str] ats ∧ Rd F w (.sl 1 lc cc rc) (.slice ac lc cc) ∧ HtRows tab [.int .i64] rc ∧
      w.cell? ⟨b, o + i * 4, none⟩ = some (.string tag) ∧ w.cell? ⟨b, o + i * 4 + 1, none⟩ = some (.slice at_ lat kat) ∧ w.cell? ⟨b, o + i * 4 + 2, none⟩ = some (.int .i64 p) ∧ w.cell? ⟨b, o + i * 4 + 3, none⟩ = some (.slice ac lc cc) := by
  obtain ⟨c0, cs0, rfl, k0, h1⟩ := (ht_at _ _ _ ht hr).cons
  obtain ⟨c1, cs1, rfl, k1, h2⟩ := h1.cons
  obtain ⟨c2, cs2, rfl, k2, h3⟩ := h2.cons
  obtain ⟨c3, cs3, rfl, k3, h4⟩ := h3.cons
  obtain rfl := h4.nil
  obtain ⟨tag, rfl⟩ := ht_str k0
  obtain ⟨lat, kat, ats, rfl, g1⟩ := ht_slE k1
  obtain ⟨p, rfl⟩ := ht_int k2
  obtain ⟨lc, cc, rc, rfl, g3⟩ := ht_slE k3
  simp only [RdRow, and_true] at h
  obtain ⟨⟨v0, q0, r0⟩, ⟨v1, q1, r1⟩, ⟨v2, q2, r2⟩, ⟨v3, q3, r3⟩⟩ := h
  have r1' := r1
  have r3' := r3
  simp only [Rd] at r0 r1 r2 r3
  obtain ⟨at_, rfl, _⟩ := r1
  obtain ⟨ac, rfl, _⟩ := r3
  subst r0 r2
  exact ⟨tag, at_, lat, kat, ats, p, ac, lc, cc, rc, rfl, r1', g1, r3', g3, q0, q1, q2, q3⟩
theorem nodesRow_at : ∀ (rs : List (List C)) (i : Nat) (r : List C), rs[i]? = some r → nodesRow r ≤ nodesRows rs := by
  intro rs
  induction rs with
  | nil => intro i r h; simp at h
  | cons x xs ih =>
    intro i r h
    simp only [nodesRows]
    cases i with
    | zero => simp at h; subst h; omega
    | succ i => have := ih i r (by simpa using h); omega
def LinkP (rows : List (List C)) (len i : Nat) (e : Ending) : Prop := ∃ bb, e = .returned (.bool bb) ∧ (bb = true → ∀ r, rows[i]? = some r → -1 ≤ parOf r ∧ parOf r < len)
set_option maxRecDepth 100000 in
set_option maxHeartbeats 1000000 in
theorem linked_ok (F : Nat → Prop) (w : World) (v : Value) (len cap : Nat) (rows : List (List C)) (hr : Rd F w (.sl 4 len cap rows) v) (ht : HtRows tab [.str, .sl 201, .int .i64, .sl 3] rows) (hF : ∀ k, F k → k < w.heap.size) (hl1 : 1 ≤ len) (hl : len ≤ 64) (hnn : nodesRows rows ≤ 1099511627776) (i : Nat) (hi : i < len) :
    Calls Tryz.prog 98 #[.agg #[v], .int .i64 i] w fun e w' => LinkP rows len i e ∧ Below w.heap.size w w' := by
  obtain ⟨a, b, o, rfl, h2, h3⟩ := row_at hr hF
  have hri : rows[i]? = some (rows[i]'(by omega)) := List.getElem?_eq_getElem _
  generalize rows[i]'(by omega) = r at hri
  obtain ⟨rfl, hFb, hbl, hrd⟩ := h3 i r hri
  obtain ⟨tag, at_, lat, kat, ats, p, ac, lc, cc, rc, rfl, _, _, hrc, htc, q0, q1, q2, q3⟩ := node_at hri ht hrd
  have b1 : Below w.heap.size w (w.alloc (Obj.cells #[Value.slice (some ⟨b, o, none⟩) len cap] 24)) := (Below.refl _ _).alloc (Nat.le_refl _) _
  have b2 : Below w.heap.size w ((w.alloc (Obj.cells #[Value.slice (some ⟨b, o, none⟩) len cap] 24)).alloc (Obj.cells #[Value.string tag, Value.slice at_ lat kat, Value.int .i64 p, Value.slice ac lc cc] 132)) := b1.alloc b1.size _
  have p0 := (b1.cell (p := ⟨b, o + i * 4, none⟩) hbl).trans q0
  have p1 := (b1.cell (p := ⟨b, o + i * 4 + 1, none⟩) hbl).trans q1
  have p2 := (b1.cell (p := ⟨b, o + i * 4 + 2, none⟩) hbl).trans q2
  have p3 := (b1.cell (p := ⟨b, o + i * 4 + 3, none⟩) hbl).trans q3
  have hlc : lc ≤ 1099511627776 := by
    have h1 : ∀ (rs : List (List C)) (i : Nat) (r : List C), rs[i]? = some r → nodesRow r ≤ nodesRows rs := by
      intro rs
      induction rs with
      | nil => intro i r h; simp at h
      | cons x xs ih =>
        intro i r h
        simp only [nodesRows]
        cases i with
        | zero => simp at h; subst h; omega
        | succ i => have := ih i r (by simpa using h); omega
    have h2 := h1 rows i _ hri
    simp only [nodesRow, nodes] at h2
    have h3 := nodesRows_len rc
    have h4 := hrc
    simp only [Rd] at h4
    obtain ⟨_, _, h5, _⟩ := h4
    omega
  have H3 := Lib.hid h3
  have HT := Lib.hid ht
  have HF := Lib.hid hF
  have HB2 := Lib.hid b2
  have HRC := Lib.hid (And.intro hrc htc)
  clear hr h3 ht hF hrd b1 b2 hrc htc q0 q1 q2 q3
  by_cases hp : p < -1 ∨ (len : Int) ≤ p
  · go_enter Tryz.func98, Tryz.ntmps98
    rcases hp with hp | hp
    · go_wp2_with fail
      go_ret
      exact ⟨⟨false, rfl, fun h => by cases h⟩, HB2.out⟩
    · have hp' : ¬ p < -1 := by omega
      have hp2 : decide (p < -1) = false := by simp; omega
      go_wp2_with fail
      go_ret
      exact ⟨⟨false, rfl, fun h => by cases h⟩, HB2.out⟩
  · have hp1 : -1 ≤ p := by omega
    have hp2 : p < len := by omega
    have hp3 : decide (p < -1) = false := by simp; omega
    have hp4 : decide ((len : Int) ≤ p) = false := by simp; omega
    have hq : ∀ r, rows[i]? = some r → -1 ≤ parOf r ∧ parOf r < len := fun r hr => by
      rw [hri] at hr; injection hr with hr; subst hr; exact ⟨hp1, hp2⟩
    have HQ := Lib.hid hq
    clear hq
    by_cases hr0 : i = 0 ∧ p ≠ -1
    · obtain ⟨rfl, hr0⟩ := hr0
      have hp5 : (p != -1) = true := by simp; omega
      go_enter Tryz.func98, Tryz.ntmps98
      simp only [Nat.zero_mul, Nat.add_zero] at p0 p1 p2 p3
      go_wp2_with fail
      go_ret
      exact ⟨⟨false, rfl, fun h => by cases h⟩, HB2.out⟩
    · have hmk : ∀ W : World, (Instr.makeSlice 45 (.int .i64 len) (.int .i64 len)).run Tryz.prog W = .ok (.slice (some ⟨W.heap.size, 0, none⟩) len len) (W.alloc (.cells (madeCells #[.bool false] len) 4)) := fun W => by
        obtain ⟨i0, hi0, hz0, hz1, hz2⟩ := info_parts zinfo4
        have := run_make (P := Tryz.prog) W 45 4 i0 _ Tryz.underlying45 hi0 hz0 .i64 .i64 len len (by omega) (by omega) (by rw [hz2]; omega) (by omega)
        rw [hz1, Nat.mul_one] at this
        exact this
      generalize hW2 : ((w.alloc (Obj.cells #[Value.slice (some ⟨b, o, none⟩) len cap] 24)).alloc (Obj.cells #[Value.string tag, Value.slice at_ lat kat, Value.int .i64 p, Value.slice ac lc cc] 132)) = W2 at *
      have x2 : W2.heap[w.heap.size]? = some (.cells #[Value.slice (some ⟨b, o, none⟩) len cap] 24 (0, 0)) := by rw [← hW2]; exact (Below.heap_alloc _ _ _ (by rw [alloc_size]; omega)).trans (heap_alloc_new w _)
      have s2 : W2.heap.size = w.heap.size + 2 := by rw [← hW2, alloc_size, alloc_size]
      have y2 : W2.heap[w.heap.size + 1]? = some (.cells #[Value.string tag, Value.slice at_ lat kat, Value.int .i64 p, Value.slice ac lc cc] 132 (0, 0)) := by
        rw [← hW2]; have := heap_alloc_new (w.alloc (Obj.cells #[Value.slice (some ⟨b, o, none⟩) len cap] 24)) (Obj.cells #[Value.string tag, Value.slice at_ lat kat, Value.int .i64 p, Value.slice ac lc cc] 132); rwa [alloc_size] at this
      have z0 : W2.cell? ⟨w.heap.size, 0, none⟩ = some (Value.slice (some ⟨b, o, none⟩) len cap) := cell_of_row _ _ 0 _ _ _ x2
      have z2 : W2.cell? ⟨w.heap.size + 1, 2, none⟩ = some (Value.int .i64 p) := cell_of_row _ _ 2 _ _ _ y2
      have z3 : W2.cell? ⟨w.heap.size + 1, 3, none⟩ = some (Value.slice ac lc cc) := cell_of_row _ _ 3 _ _ _ y2
      have HW2 := Lib.hid hW2
      have HX := Lib.hid (And.intro x2 (And.intro s2 y2))
      clear hW2 x2 s2 y2
      rcases Int.lt_or_le p 0 with hneg | hpos
      · obtain rfl : p = -1 := by omega
        by_cases hi0 : i = 0
        · subst hi0
          simp only [Nat.zero_mul, Nat.add_zero] at p0 p1 p2 p3
          go_enter Tryz.func98, Tryz.ntmps98
          go_wp2_with fail
          rw [HW2.out]
          go_loopw [56] (fun x56 wr => ∃ k : Nat, k ≤ lc ∧ x56 = .int .i64 k ∧ Below w.heap.size w wr ∧ wr.cell? ⟨w.heap.size, 0, none⟩ = some (Value.slice (some ⟨b, o, none⟩) len cap) ∧ ∃ c, wr.heap[w.heap.size + 1 + 1]? = some (.cells c 4 (0, 0)) ∧ c.size = len ∧ ∀ q, q < len → ∃ bb, c[q]? = some (.bool bb)) (fun x56 _ => lc - (intOf x56).toNat)
          case atStart =>
            refine ⟨0, by omega, rfl, HB2.out.alloc HB2.out.size _, ?_, madeCells #[.bool false] len, ?_, size_madeCells _ _, fun q hq => ⟨false, ?_⟩⟩
            · exact cell_of_row _ _ 0 _ _ _ ((Below.heap_alloc W2 _ _ (by have := HX.out.2.1; omega)).trans HX.out.1)
            · have := heap_alloc_new W2 (.cells (madeCells #[.bool false] len) 4); rw [HX.out.2.1] at this; exact this
            · rw [Array.getElem?_eq_getElem (by rw [size_madeCells]; exact hq)]; simp [madeCells, Nat.mod_one]
          case round =>
            obtain ⟨k, hk, rfl, hB, zz, c, hc1, hc2, hc3⟩ := hrel
            by_cases hlt : k < lc
            · obtain ⟨hrc, htc⟩ := HRC.out
              obtain ⟨a', b', o', e1, hlr, h4⟩ := row_at hrc HF.out
              have hrk : rc[k]? = some (rc[k]'(by omega)) := List.getElem?_eq_getElem _
              generalize rc[k]'(by omega) = rk at hrk
              obtain ⟨e2, _, hbl', hrd⟩ := h4 k rk hrk
              obtain rfl : ac = some ⟨b', o', none⟩ := by injection e1 with e1; exact e1.trans e2
              obtain ⟨c0, cs0, rfl, k0, _⟩ := (ht_at _ _ _ htc hrk).cons
              obtain ⟨y, rfl⟩ := ht_int k0
              simp only [RdRow, Rd, exists_eq_right, Nat.mul_one] at hrd
              have py := (hB.cell (p := ⟨b', o' + k, none⟩) hbl').trans hrd.1
              have HB := Lib.hid hB
              have HC := Lib.hid (And.intro hc1 (And.intro hc2 hc3))
              clear hB hrc htc hrd h4 e1 e2 k0 hc1 hc2 hc3
              rcases Int.lt_or_le y 0 with hy | hy
              · go_wp2
                go_ret
                exact ⟨⟨false, rfl, fun h => by cases h⟩, HB.out⟩
              · by_cases hy2 : (len : Int) ≤ y
                · have hy3 : decide (y < 0) = false := by simp; omega
                  go_wp2
                  go_ret
                  exact ⟨⟨false, rfl, fun h => by cases h⟩, HB.out⟩
                · obtain ⟨yn, rfl⟩ := Int.eq_ofNat_of_zero_le hy
                  have hyn : yn < len := by omega
                  obtain ⟨hc1, hc2, hc3⟩ := HC.out
                  obtain ⟨bb, hbb⟩ := hc3 yn hyn
                  have zs : wr.cell? ⟨w.heap.size + 1 + 1, yn, none⟩ = some (.bool bb) := by rw [cell_of_row _ _ _ _ _ _ hc1]; exact hbb
                  have fs : wr.frozen? ⟨w.heap.size + 1 + 1, yn, none⟩ = false := by simp [World.frozen?, hc1]
                  have hrn : rows[yn]? = some (rows[yn]'(by omega)) := List.getElem?_eq_getElem _
                  generalize rows[yn]'(by omega) = rn at hrn
                  obtain ⟨_, _, _, hrd⟩ := H3.out yn rn hrn
                  obtain ⟨_, _, _, _, _, pp, _, _, _, _, rfl, _, _, _, _, _, _, n2, _⟩ := node_at hrn HT.out hrd
                  have pn2 := (HB.out.cell (p := ⟨b, o + yn * 4 + 2, none⟩) hbl).trans n2
                  have hy4 : decide ((yn : Int) < 0) = false := by simp <;> omega
                  have hy5 : decide ((len : Int) ≤ (yn : Int)) = false := by simp <;> omega
                  have hy6 : decide (len ≤ yn) = false := by simp <;> omega
                  clear hc1 hc2 hc3 hbb hrd n2
                  cases bb with
                  | true =>
                    go_wp2
                    go_ret
                    exact ⟨⟨false, rfl, fun h => by cases h⟩, HB.out⟩
                  | false =>
                    by_cases hpi : pp = (0 : Int)
                    · have hpi2 : (pp != (0 : Int)) = false := by simp [hpi]
                      go_wp2
                      go_roundw
                      case rel =>
                        obtain ⟨hc1, hc2, hc3⟩ := HC.out
                        refine ⟨k + 1, by omega, by go_num, HB.out.setCell (p := ⟨w.heap.size + 1 + 1, yn, none⟩) (by show w.heap.size ≤ w.heap.size + 1 + 1; omega) _, ?_, c.setIfInBounds yn (.bool true), heap_setCell_at hc1, by rw [Array.size_setIfInBounds]; exact hc2, fun q hq => ?_⟩
                        · exact out_cell zz (Below.heap_setCell _ _ _ _ (by show w.heap.size ≠ w.heap.size + 1 + 1; omega))
                        · by_cases hqy : q = yn
                          · subst hqy; exact ⟨true, by rw [Array.getElem?_setIfInBounds_self_of_lt (by omega)]⟩
                          · obtain ⟨b2, hb2⟩ := hc3 q hq; exact ⟨b2, by rw [Array.getElem?_setIfInBounds_ne (fun e => hqy e.symm)]; exact hb2⟩
                      case measure => simp [intOf]; omega
                    · have hpi2 : (pp != (0 : Int)) = true := by simp; omega
                      go_wp2
                      go_ret
                      exact ⟨⟨false, rfl, fun h => by cases h⟩, HB.out⟩
            · obtain rfl : k = lc := by omega
              have HB := Lib.hid hB
              clear hB hc1 hc2 hc3
              go_wp2
              go_ret
              exact ⟨⟨true, rfl, fun _ => HQ.out⟩, HB.out⟩
        · have hi1 : ((i : Int) == 0) = false := by simp; omega
          go_enter Tryz.func98, Tryz.ntmps98
          go_wp2_with fail
          rw [HW2.out]
          go_loopw [56] (fun x56 wr => ∃ k : Nat, k ≤ lc ∧ x56 = .int .i64 k ∧ Below w.heap.size w wr ∧ wr.cell? ⟨w.heap.size, 0, none⟩ = some (Value.slice (some ⟨b, o, none⟩) len cap) ∧ ∃ c, wr.heap[w.heap.size + 1 + 1]? = some (.cells c 4 (0, 0)) ∧ c.size = len ∧ ∀ q, q < len → ∃ bb, c[q]? = some (.bool bb)) (fun x56 _ => lc - (intOf x56).toNat)
          case atStart =>
            refine ⟨0, by omega, rfl, HB2.out.alloc HB2.out.size _, ?_, madeCells #[.bool false] len, ?_, size_madeCells _ _, fun q hq => ⟨false, ?_⟩⟩
            · exact cell_of_row _ _ 0 _ _ _ ((Below.heap_alloc W2 _ _ (by have := HX.out.2.1; omega)).trans HX.out.1)
            · have := heap_alloc_new W2 (.cells (madeCells #[.bool false] len) 4); rw [HX.out.2.1] at this; exact this
            · rw [Array.getElem?_eq_getElem (by rw [size_madeCells]; exact hq)]; simp [madeCells, Nat.mod_one]
          case round =>
            obtain ⟨k, hk, rfl, hB, zz, c, hc1, hc2, hc3⟩ := hrel
            by_cases hlt : k < lc
            · obtain ⟨hrc, htc⟩ := HRC.out
              obtain ⟨a', b', o', e1, hlr, h4⟩ := row_at hrc HF.out
              have hrk : rc[k]? = some (rc[k]'(by omega)) := List.getElem?_eq_getElem _
              generalize rc[k]'(by omega) = rk at hrk
              obtain ⟨e2, _, hbl', hrd⟩ := h4 k rk hrk
              obtain rfl : ac = some ⟨b', o', none⟩ := by injection e1 with e1; exact e1.trans e2
              obtain ⟨c0, cs0, rfl, k0, _⟩ := (ht_at _ _ _ htc hrk).cons
              obtain ⟨y, rfl⟩ := ht_int k0
              simp only [RdRow, Rd, exists_eq_right, Nat.mul_one] at hrd
              have py := (hB.cell (p := ⟨b', o' + k, none⟩) hbl').trans hrd.1
              have HB := Lib.hid hB
              have HC := Lib.hid (And.intro hc1 (And.intro hc2 hc3))
              clear hB hrc htc hrd h4 e1 e2 k0 hc1 hc2 hc3
              rcases Int.lt_or_le y 0 with hy | hy
              · go_wp2
                go_ret
                exact ⟨⟨false, rfl, fun h => by cases h⟩, HB.out⟩
              · by_cases hy2 : (len : Int) ≤ y
                · have hy3 : decide (y < 0) = false := by simp; omega
                  go_wp2
                  go_ret
                  exact ⟨⟨false, rfl, fun h => by cases h⟩, HB.out⟩
                · obtain ⟨yn, rfl⟩ := Int.eq_ofNat_of_zero_le hy
                  have hyn : yn < len := by omega
                  obtain ⟨hc1, hc2, hc3⟩ := HC.out
                  obtain ⟨bb, hbb⟩ := hc3 yn hyn
                  have zs : wr.cell? ⟨w.heap.size + 1 + 1, yn, none⟩ = some (.bool bb) := by rw [cell_of_row _ _ _ _ _ _ hc1]; exact hbb
                  have fs : wr.frozen? ⟨w.heap.size + 1 + 1, yn, none⟩ = false := by simp [World.frozen?, hc1]
                  have hrn : rows[yn]? = some (rows[yn]'(by omega)) := List.getElem?_eq_getElem _
                  generalize rows[yn]'(by omega) = rn at hrn
                  obtain ⟨_, _, _, hrd⟩ := H3.out yn rn hrn
                  obtain ⟨_, _, _, _, _, pp, _, _, _, _, rfl, _, _, _, _, _, _, n2, _⟩ := node_at hrn HT.out hrd
                  have pn2 := (HB.out.cell (p := ⟨b, o + yn * 4 + 2, none⟩) hbl).trans n2
                  have hy4 : decide ((yn : Int) < 0) = false := by simp <;> omega
                  have hy5 : decide ((len : Int) ≤ (yn : Int)) = false := by simp <;> omega
                  have hy6 : decide (len ≤ yn) = false := by simp <;> omega
                  clear hc1 hc2 hc3 hbb hrd n2
                  cases bb with
                  | true =>
                    go_wp2
                    go_ret
                    exact ⟨⟨false, rfl, fun h => by cases h⟩, HB.out⟩
                  | false =>
                    by_cases hpi : pp = (i : Int)
                    · have hpi2 : (pp != (i : Int)) = false := by simp [hpi]
                      go_wp2
                      go_roundw
                      case rel =>
                        obtain ⟨hc1, hc2, hc3⟩ := HC.out
                        refine ⟨k + 1, by omega, by go_num, HB.out.setCell (p := ⟨w.heap.size + 1 + 1, yn, none⟩) (by show w.heap.size ≤ w.heap.size + 1 + 1; omega) _, ?_, c.setIfInBounds yn (.bool true), heap_setCell_at hc1, by rw [Array.size_setIfInBounds]; exact hc2, fun q hq => ?_⟩
                        · exact out_cell zz (Below.heap_setCell _ _ _ _ (by show w.heap.size ≠ w.heap.size + 1 + 1; omega))
                        · by_cases hqy : q = yn
                          · subst hqy; exact ⟨true, by rw [Array.getElem?_setIfInBounds_self_of_lt (by omega)]⟩
                          · obtain ⟨b2, hb2⟩ := hc3 q hq; exact ⟨b2, by rw [Array.getElem?_setIfInBounds_ne (fun e => hqy e.symm)]; exact hb2⟩
                      case measure => simp [intOf]; omega
                    · have hpi2 : (pp != (i : Int)) = true := by simp; omega
                      go_wp2
                      go_ret
                      exact ⟨⟨false, rfl, fun h => by cases h⟩, HB.out⟩
            · obtain rfl : k = lc := by omega
              have HB := Lib.hid hB
              clear hB hc1 hc2 hc3
              go_wp2
              go_ret
              exact ⟨⟨true, rfl, fun _ => HQ.out⟩, HB.out⟩
      · obtain ⟨pn, rfl⟩ := Int.eq_ofNat_of_zero_le hpos
        have hi0 : i ≠ 0 := fun h => hr0 ⟨h, by omega⟩
        have hi1 : ((i : Int) == 0) = false := by simp; omega
        have hrp : rows[pn]? = some (rows[pn]'(by omega)) := List.getElem?_eq_getElem _
        generalize rows[pn]'(by omega) = rp at hrp
        obtain ⟨_, _, _, hrdp⟩ := H3.out pn rp hrp
        obtain ⟨_, _, _, _, _, _, acp, lcp, ccp, rcp, rfl, _, _, hcp, htp, _, _, _, np3⟩ := node_at hrp HT.out hrdp
        have npw := (HB2.out.cell (p := ⟨b, o + pn * 4 + 3, none⟩) hbl).trans np3
        have hlcp : lcp ≤ 1099511627776 := by
          have h1 := nodesRow_at rows pn _ hrp
          simp only [nodesRow, nodes] at h1
          have h3 := nodesRows_len rcp
          have h4 := hcp
          simp only [Rd] at h4
          obtain ⟨_, _, h5, _⟩ := h4
          omega
        have hcc := contains_ok tab F W2 (.slice acp lcp ccp) i lcp ccp rcp (Rd.mono (fun k hk => ⟨hk, HB2.out.block k (HF.out k hk)⟩) _ _ hcp) htp (fun k hk => Nat.lt_of_lt_of_le (HF.out k hk) HB2.out.size) hlcp
        have HCC := Lib.hid hcc
        clear hcc hcp htp hrdp
        have hpn2 : decide ((pn : Int) < -1) = false := by simp <;> omega
        have z3a : ∀ X, (W2.alloc X).cell? ⟨w.heap.size + 1, 3, none⟩ = some (Value.slice ac lc cc) := fun X => out_cell z3 (Below.heap_alloc _ _ _ (by have := HX.out.2.1; omega))
        have z0a : ∀ X, (W2.alloc X).cell? ⟨w.heap.size, 0, none⟩ = some (Value.slice (some ⟨b, o, none⟩) len cap) := fun X => out_cell z0 (Below.heap_alloc _ _ _ (by have := HX.out.2.1; omega))
        go_enter Tryz.func98, Tryz.ntmps98
        go_wp2_with fail
        rw [HW2.out]
        refine HCC.out.mono ?_
        rintro e w' ⟨⟨bb, rfl⟩, hw'⟩
        rw [hw']
        clear hw'
        cases bb with
        | false =>
          go_wp2_with fail
          go_ret
          exact ⟨⟨false, rfl, fun h => by cases h⟩, HB2.out⟩
        | true =>
          go_wp2_with fail
          go_loopw [56] (fun x56 wr => ∃ k : Nat, k ≤ lc ∧ x56 = .int .i64 k ∧ Below w.heap.size w wr ∧ wr.cell? ⟨w.heap.size, 0, none⟩ = some (Value.slice (some ⟨b, o, none⟩) len cap) ∧ ∃ c, wr.heap[W2.heap.size]? = some (.cells c 4 (0, 0)) ∧ c.size = len ∧ ∀ q, q < len → ∃ bb, c[q]? = some (.bool bb)) (fun x56 _ => lc - (intOf x56).toNat)
          case atStart =>
            refine ⟨0, by omega, rfl, HB2.out.alloc HB2.out.size _, ?_, madeCells #[.bool false] len, ?_, size_madeCells _ _, fun q hq => ⟨false, ?_⟩⟩
            · exact cell_of_row _ _ 0 _ _ _ ((Below.heap_alloc W2 _ _ (by have := HX.out.2.1; omega)).trans HX.out.1)
            · have := heap_alloc_new W2 (.cells (madeCells #[.bool false] len) 4); exact this
            · rw [Array.getElem?_eq_getElem (by rw [size_madeCells]; exact hq)]; simp [madeCells, Nat.mod_one]
          case round =>
            obtain ⟨k, hk, rfl, hB, zz, c, hc1, hc2, hc3⟩ := hrel
            by_cases hlt : k < lc
            · obtain ⟨hrc, htc⟩ := HRC.out
              obtain ⟨a', b', o', e1, hlr, h4⟩ := row_at hrc HF.out
              have hrk : rc[k]? = some (rc[k]'(by omega)) := List.getElem?_eq_getElem _
              generalize rc[k]'(by omega) = rk at hrk
              obtain ⟨e2, _, hbl', hrd⟩ := h4 k rk hrk
              obtain rfl : ac = some ⟨b', o', none⟩ := by injection e1 with e1; exact e1.trans e2
              obtain ⟨c0, cs0, rfl, k0, _⟩ := (ht_at _ _ _ htc hrk).cons
              obtain ⟨y, rfl⟩ := ht_int k0
              simp only [RdRow, Rd, exists_eq_right, Nat.mul_one] at hrd
              have py := (hB.cell (p := ⟨b', o' + k, none⟩) hbl').trans hrd.1
              have HB := Lib.hid hB
              have HC := Lib.hid (And.intro hc1 (And.intro hc2 hc3))
              clear hB hrc htc hrd h4 e1 e2 k0 hc1 hc2 hc3
              rcases Int.lt_or_le y 0 with hy | hy
              · go_wp2
                go_ret
                exact ⟨⟨false, rfl, fun h => by cases h⟩, HB.out⟩
              · by_cases hy2 : (len : Int) ≤ y
                · have hy3 : decide (y < 0) = false := by simp; omega
                  go_wp2
                  go_ret
                  exact ⟨⟨false, rfl, fun h => by cases h⟩, HB.out⟩
                · obtain ⟨yn, rfl⟩ := Int.eq_ofNat_of_zero_le hy
                  have hyn : yn < len := by omega
                  obtain ⟨hc1, hc2, hc3⟩ := HC.out
                  obtain ⟨bb, hbb⟩ := hc3 yn hyn
                  have zs : wr.cell? ⟨W2.heap.size, yn, none⟩ = some (.bool bb) := by rw [cell_of_row _ _ _ _ _ _ hc1]; exact hbb
                  have fs : wr.frozen? ⟨W2.heap.size, yn, none⟩ = false := by simp [World.frozen?, hc1]
                  have hrn : rows[yn]? = some (rows[yn]'(by omega)) := List.getElem?_eq_getElem _
                  generalize rows[yn]'(by omega) = rn at hrn
                  obtain ⟨_, _, _, hrd⟩ := H3.out yn rn hrn
                  obtain ⟨_, _, _, _, _, pp, _, _, _, _, rfl, _, _, _, _, _, _, n2, _⟩ := node_at hrn HT.out hrd
                  have pn2 := (HB.out.cell (p := ⟨b, o + yn * 4 + 2, none⟩) hbl).trans n2
                  have hy4 : decide ((yn : Int) < 0) = false := by simp <;> omega
                  have hy5 : decide ((len : Int) ≤ (yn : Int)) = false := by simp <;> omega
                  have hy6 : decide (len ≤ yn) = false := by simp <;> omega
                  clear hc1 hc2 hc3 hbb hrd n2
                  cases bb with
                  | true =>
                    go_wp2
                    go_ret
                    exact ⟨⟨false, rfl, fun h => by cases h⟩, HB.out⟩
                  | false =>
                    by_cases hpi : pp = (i : Int)
                    · have hpi2 : (pp != (i : Int)) = false := by simp [hpi]
                      go_wp2
                      go_roundw
                      case rel =>
                        obtain ⟨hc1, hc2, hc3⟩ := HC.out
                        refine ⟨k + 1, by omega, by go_num, HB.out.setCell (p := ⟨W2.heap.size, yn, none⟩) (by show w.heap.size ≤ W2.heap.size; have := HX.out.2.1; omega) _, ?_, c.setIfInBounds yn (.bool true), heap_setCell_at hc1, by rw [Array.size_setIfInBounds]; exact hc2, fun q hq => ?_⟩
                        · exact out_cell zz (Below.heap_setCell _ _ _ _ (by show w.heap.size ≠ W2.heap.size; have := HX.out.2.1; omega))
                        · by_cases hqy : q = yn
                          · subst hqy; exact ⟨true, by rw [Array.getElem?_setIfInBounds_self_of_lt (by omega)]⟩
                          · obtain ⟨b2, hb2⟩ := hc3 q hq; exact ⟨b2, by rw [Array.getElem?_setIfInBounds_ne (fun e => hqy e.symm)]; exact hb2⟩
                      case measure => simp [intOf]; omega
                    · have hpi2 : (pp != (i : Int)) = true := by simp; omega
                      go_wp2
                      go_ret
                      exact ⟨⟨false, rfl, fun h => by cases h⟩, HB.out⟩
            · obtain rfl : k = lc := by omega
              have HB := Lib.hid hB
              clear hB hc1 hc2 hc3
              go_wp2
              go_ret
              exact ⟨⟨true, rfl, fun _ => HQ.out⟩, HB.out⟩
end Go.Proofs.YtgkamgijnhbcbaaGreatDoor
