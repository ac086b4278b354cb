/- tree.linked once more: where it is true the children lie in the tree, none twice, and name their parent. -/
import Derived.Test.YtgkamgijnhbcbaaGreatDoorCheck
import Derived.WalkKit
import Derived.WalkSpells
import Derived.WalkLawsBesides
import Derived.Deep.QuietTactic
import Derived.BigQuiet
namespace Go.Proofs.YtgkamgijnhbcbaaGreatDoor
open Go.RowKit Go.Vt Go.Proofs
/-- The number in a row of numbers. -/
def kidOf : List C → Int
  | [.int _ z] => z
  | _ => 0
/-- The numbers of a list. -/
def ints (rc : List (List C)) (lc : Nat) : List Int := (rc.take lc).map kidOf
theorem ints_len (rc : List (List C)) (lc : Nat) : (ints rc lc).length ≤ lc := by simp only [ints, List.length_map, List.length_take]; omega
/-- The children that node i tells. -/
def kids (rows : List (List C)) (i : Nat) : List Int := match rows[i]? with
  | some [_, _, _, .sl _ lc _ rc] => ints rc lc
  | _ => []
theorem kidOf_at {rows : List (List C)} {len i : Nat} {y : Int} {k : IntKind} (h : rows[i]? = some [.int k y]) (hi : i < len) : (ints rows len)[i]? = some y := by
  rw [ints, List.getElem?_map, List.getElem?_take_of_lt hi, h]; rfl
theorem kids_is {rows rc : List (List C)} {i sz lc cc : Nat} {a b c : C} (h : rows[i]? = some [a, b, c, .sl sz lc cc rc]) : kids rows i = ints rc lc := by simp only [kids, h]
theorem par_is {rows rc : List (List C)} {i sz lc cc : Nat} {a b : C} {k : IntKind} {p : Int} (h : rows[i]? = some [a, b, .int k p, .sl sz lc cc rc]) : par rows i = p := by simp only [par, h, parOf]
set_option maxRecDepth 100000 in
theorem index2_ok (tab : Nat → List CT) (F : Nat → Prop) (w : World) (v : Value) (x : Int) (len cap : Nat) (rows : List (List C)) (hr : Rd F w (.sl 1 len cap rows) v) (ht : HtRows tab [.int .i64] rows) (hF : ∀ k, F k → k < w.heap.size) (hl : len ≤ 1099511627776) :
    Calls Tryz.prog 84 #[v, .int .i64 x] w fun e w' => (∃ n : Int, e = .returned (.int .i64 n) ∧ -1 ≤ n ∧ n < len ∧ (0 ≤ n → x ∈ ints rows len) ∧ (n = -1 → x ∉ ints rows len)) ∧ w' = w := by
  obtain ⟨a, b, o, rfl, h2, h3⟩ := row_at hr hF
  have H3 := Lib.hid h3
  have HT := Lib.hid ht
  clear hr h3 ht hF
  go_enter Tryz.func84, Tryz.ntmps84
  go_wp2
  go_loopw [8] (fun x8 wr => ∃ i : Nat, i ≤ len ∧ x8 = .int .i64 i ∧ wr = w ∧ ∀ j, j < i → (ints rows len)[j]? ≠ some x) (fun x8 _ => len - (intOf x8).toNat)
  case atStart => exact ⟨0, by omega, rfl, rfl, fun j hj => by omega⟩
  case round =>
    obtain ⟨i, hi, rfl, rfl, hno⟩ := hrel
    by_cases hlt : i < len
    · have hri : rows[i]? = some (rows[i]'(by omega)) := List.getElem?_eq_getElem _
      generalize rows[i]'(by omega) = r at hri
      obtain ⟨rfl, _, hbl, hrd⟩ := H3.out i r hri
      obtain ⟨c0, cs0, rfl, k0, ht1⟩ := (ht_at _ _ _ HT.out hri).cons
      obtain rfl := ht1.nil
      obtain ⟨y, rfl⟩ := ht_int k0
      simp only [RdRow, Rd, exists_eq_right, Nat.mul_one] at hrd
      have p0 := hrd.1
      have hy := Lib.hid (kidOf_at hri hlt)
      have HNO := Lib.hid hno
      clear hrd k0 hno hri
      by_cases hxy : y = x
      · have hxy2 : (x == y) = true := by simp [hxy]
        have hxy3 : (y == x) = true := by simp [hxy]
        subst hxy
        go_wp2
        go_ret
        exact ⟨⟨i, rfl, by omega, by omega, fun _ => List.mem_of_getElem? hy.out, fun h => by omega⟩, by first | trivial | rfl⟩
      · have hxy2 : (x == y) = false := by simp; exact fun h => hxy h.symm
        have hxy3 : (y == x) = false := by simp; exact hxy
        go_wp2
        go_roundw
        case rel => exact ⟨i + 1, by omega, by go_num, by first | trivial | rfl, fun j hj => by
          by_cases e : j = i
          · subst e; rw [hy.out]; intro h; injection h with h; exact hxy h
          · exact HNO.out j (by omega)⟩
        case measure => simp [intOf]; omega
    · obtain rfl : i = len := by omega
      have HNO := Lib.hid hno
      clear hno
      go_wp2
      go_ret
      exact ⟨⟨-1, rfl, by omega, by omega, fun h => by omega, fun _ hm => by
        obtain ⟨j, hj⟩ := List.getElem?_of_mem hm
        have hjl := (List.getElem?_eq_some_iff.1 hj).1
        have := ints_len rows i
        exact HNO.out j (by omega) hj⟩, by first | trivial | rfl⟩
set_option maxRecDepth 100000 in
theorem contains2_ok (tab : Nat → List CT) (F : Nat → Prop) (w : World) (v : Value) (x : Int) (len cap : Nat) (rows : List (List C)) (hr : Rd F w (.sl 1 len cap rows) v) (ht : HtRows tab [.int .i64] rows) (hF : ∀ k, F k → k < w.heap.size) (hl : len ≤ 1099511627776) :
    Calls Tryz.prog 137 #[v, .int .i64 x] w fun e w' => (∃ b, e = .returned (.bool b) ∧ (b = true → x ∈ ints rows len)) ∧ w' = w := by
  have hc := Lib.hid (index2_ok tab F w v x len cap rows hr ht hF hl)
  obtain ⟨a, b, o, rfl, h2, h3⟩ := row_at hr hF
  clear hr ht hF h3
  go_enter Tryz.func137, Tryz.ntmps137
  go_wp2_with fail
  refine hc.out.mono ?_
  rintro e w2 ⟨⟨n, rfl, h1, _, h2, _⟩, rfl⟩
  have H2 := Lib.hid h2
  clear h2
  go_wp2
  go_ret
  exact ⟨⟨_, rfl, fun h => H2.out (by simpa using h)⟩, rfl⟩
end Go.Proofs.YtgkamgijnhbcbaaGreatDoor
namespace Go.Proofs.YtgkamgijnhbcbaaGreatDoor
open Go.RowKit Go.Vt Go.Proofs
/-- What the children of node i are. -/
structure Kin (rows : List (List C)) (len i : Nat) : Prop where
  lo : -1 ≤ par rows i
  hi : par rows i < len
  ok : ∀ y ∈ kids rows i, 0 ≤ y ∧ y < len ∧ par rows y.toNat = i
  nd : (kids rows i).Nodup
  up : 0 ≤ par rows i → (i : Int) ∈ kids rows (par rows i).toNat
/-- The children seen so far, and the marks that they have set. -/
structure Seen (rows : List (List C)) (len i : Nat) (ks : List Int) (c : Array Value) : Prop where
  ok : ∀ y ∈ ks, 0 ≤ y ∧ y < len ∧ par rows y.toNat = i
  nd : ks.Nodup
  bits : ∀ q, q < len → c[q]? = some (.bool (decide ((q : Int) ∈ ks)))
theorem Seen.start {rows : List (List C)} {len i : Nat} (rc : List (List C)) (lc : Nat) : Seen rows len i ((ints rc lc).take 0) (madeCells #[.bool false] len) :=
  ⟨by simp, by simp, fun q hq => by rw [Array.getElem?_eq_getElem (by rw [size_madeCells]; exact hq)]; simp [madeCells, Nat.mod_one]⟩
theorem Seen.push {rows : List (List C)} {len i k yn : Nat} {ks : List Int} {c : Array Value} (h : Seen rows len i (ks.take k) c) (hs : c.size = len) (hk : ks[k]? = some (yn : Int)) (hy : yn < len) (hp : par rows yn = i) (hn : ¬ (yn : Int) ∈ ks.take k) : Seen rows len i (ks.take (k + 1)) (c.setIfInBounds yn (.bool true)) := by
  have e : ks.take (k + 1) = ks.take k ++ [(yn : Int)] := by rw [List.take_add_one, hk]; rfl
  rw [e]
  refine ⟨fun y hm => ?_, ?_, fun q hq => ?_⟩
  · rcases List.mem_append.1 hm with h1 | h1
    · exact h.ok y h1
    · obtain rfl := List.mem_singleton.1 h1; exact ⟨by omega, by omega, by rw [Int.toNat_natCast]; exact hp⟩
  · rw [List.nodup_append]
    refine ⟨h.nd, by simp, fun a ha b hb => ?_⟩
    obtain rfl := List.mem_singleton.1 hb
    exact fun e => hn (e ▸ ha)
  · by_cases hqy : q = yn
    · subst hqy; rw [Array.getElem?_setIfInBounds_self_of_lt (by omega)]; simp
    · rw [Array.getElem?_setIfInBounds_ne (fun e => hqy e.symm), h.bits q hq]
      have : ¬ ((q : Int) = (yn : Int)) := by omega
      simp [this]
theorem Seen.kin {rows rc : List (List C)} {len i lc cc sz : Nat} {a b : C} {p : Int} {k : IntKind} {c : Array Value} (hri : rows[i]? = some [a, b, .int k p, .sl sz lc cc rc]) (h : Seen rows len i ((ints rc lc).take lc) c) (h1 : -1 ≤ p) (h2 : p < len) (hu : 0 ≤ p → (i : Int) ∈ kids rows p.toNat) : Kin rows len i := by
  have e : (ints rc lc).take lc = ints rc lc := List.take_of_length_le (ints_len rc lc)
  rw [e] at h
  refine ⟨?_, ?_, ?_, ?_, ?_⟩
  · rw [par_is hri]; exact h1
  · rw [par_is hri]; exact h2
  · rw [kids_is hri]; exact h.ok
  · rw [kids_is hri]; exact h.nd
  · rw [par_is hri]; exact hu
def LinkP2 (rows : List (List C)) (len i : Nat) (e : Ending) : Prop := ∃ bb, e = .returned (.bool bb) ∧ (bb = true → Kin rows len i)
set_option maxRecDepth 100000 in
set_option maxHeartbeats 1000000 in
theorem linked2_ok (F : Nat → Prop) (w : World) (v : Value) (len cap : Nat) (rows : List (List C)) (hr : Rd F w (.sl 4 len cap rows) v) (ht : HtRows tab [.str, .sl 201, .int .i64, .sl 3] rows) (hF : ∀ k, F k → k < w.heap.size) (hl1 : 1 ≤ len) (hl : len ≤ 64) (hnn : nodesRows rows ≤ 1099511627776) (i : Nat) (hi : i < len) :
    Calls Tryz.prog 98 #[.agg #[v], .int .i64 i] w fun e w' => LinkP2 rows len i e ∧ Below w.heap.size w w' := by
  obtain ⟨a, b, o, rfl, h2, h3⟩ := row_at hr hF
  have hri : rows[i]? = some (rows[i]'(by omega)) := List.getElem?_eq_getElem _
  generalize rows[i]'(by omega) = r at hri
  obtain ⟨rfl, hFb, hbl, hrd⟩ := h3 i r hri
  obtain ⟨tag, at_, lat, kat, ats, p, ac, lc, cc, rc, rfl, _, _, hrc, htc, q0, q1, q2, q3⟩ := node_at hri ht hrd
  have b1 : Below w.heap.size w (w.alloc (Obj.cells #[Value.slice (some ⟨b, o, none⟩) len cap] 24)) := (Below.refl _ _).alloc (Nat.le_refl _) _
  have b2 : Below w.heap.size w ((w.alloc (Obj.cells #[Value.slice (some ⟨b, o, none⟩) len cap] 24)).alloc (Obj.cells #[Value.string tag, Value.slice at_ lat kat, Value.int .i64 p, Value.slice ac lc cc] 132)) := b1.alloc b1.size _
  have p0 := (b1.cell (p := ⟨b, o + i * 4, none⟩) hbl).trans q0
  have p1 := (b1.cell (p := ⟨b, o + i * 4 + 1, none⟩) hbl).trans q1
  have p2 := (b1.cell (p := ⟨b, o + i * 4 + 2, none⟩) hbl).trans q2
  have p3 := (b1.cell (p := ⟨b, o + i * 4 + 3, none⟩) hbl).trans q3
  have hlc : lc ≤ 1099511627776 := by
    have h1 : ∀ (rs : List (List C)) (i : Nat) (r : List C), rs[i]? = some r → nodesRow r ≤ nodesRows rs := by
      intro rs
      induction rs with
      | nil => intro i r h; simp at h
      | cons x xs ih =>
        intro i r h
        simp only [nodesRows]
        cases i with
        | zero => simp at h; subst h; omega
        | succ i => have := ih i r (by simpa using h); omega
    have h2 := h1 rows i _ hri
    simp only [nodesRow, nodes] at h2
    have h3 := nodesRows_len rc
    have h4 := hrc
    simp only [Rd] at h4
    obtain ⟨_, _, h5, _⟩ := h4
    omega
  have H3 := Lib.hid h3
  have HT := Lib.hid ht
  have HF := Lib.hid hF
  have HB2 := Lib.hid b2
  have HRC := Lib.hid (And.intro hrc htc)
  clear hr h3 ht hF hrd b1 b2 hrc htc q0 q1 q2 q3
  by_cases hp : p < -1 ∨ (len : Int) ≤ p
  · go_enter Tryz.func98, Tryz.ntmps98
    rcases hp with hp | hp
    · go_wp2_with fail
      go_ret
      exact ⟨⟨false, rfl, fun h => by cases h⟩, HB2.out⟩
    · have hp' : ¬ p < -1 := by omega
      have hp2 : decide (p < -1) = false := by simp; omega
      go_wp2_with fail
      go_ret
      exact ⟨⟨false, rfl, fun h => by cases h⟩, HB2.out⟩
  · have hp1 : -1 ≤ p := by omega
    have hp2 : p < len := by omega
    have hp3 : decide (p < -1) = false := by simp; omega
    have hp4 : decide ((len : Int) ≤ p) = false := by simp; omega
    have HRI := Lib.hid hri
    by_cases hr0 : i = 0 ∧ p ≠ -1
    · obtain ⟨rfl, hr0⟩ := hr0
      have hp5 : (p != -1) = true := by simp; omega
      go_enter Tryz.func98, Tryz.ntmps98
      simp only [Nat.zero_mul, Nat.add_zero] at p0 p1 p2 p3
      go_wp2_with fail
      go_ret
      exact ⟨⟨false, rfl, fun h => by cases h⟩, HB2.out⟩
    · have hmk : ∀ W : World, (Instr.makeSlice 45 (.int .i64 len) (.int .i64 len)).run Tryz.prog W = .ok (.slice (some ⟨W.heap.size, 0, none⟩) len len) (W.alloc (.cells (madeCells #[.bool false] len) 4)) := fun W => by
        obtain ⟨i0, hi0, hz0, hz1, hz2⟩ := info_parts zinfo4
        have := run_make (P := Tryz.prog) W 45 4 i0 _ Tryz.underlying45 hi0 hz0 .i64 .i64 len len (by omega) (by omega) (by rw [hz2]; omega) (by omega)
        rw [hz1, Nat.mul_one] at this
        exact this
      generalize hW2 : ((w.alloc (Obj.cells #[Value.slice (some ⟨b, o, none⟩) len cap] 24)).alloc (Obj.cells #[Value.string tag, Value.slice at_ lat kat, Value.int .i64 p, Value.slice ac lc cc] 132)) = W2 at *
      have x2 : W2.heap[w.heap.size]? = some (.cells #[Value.slice (some ⟨b, o, none⟩) len cap] 24 (0, 0)) := by rw [← hW2]; exact (Below.heap_alloc _ _ _ (by rw [alloc_size]; omega)).trans (heap_alloc_new w _)
      have s2 : W2.heap.size = w.heap.size + 2 := by rw [← hW2, alloc_size, alloc_size]
      have y2 : W2.heap[w.heap.size + 1]? = some (.cells #[Value.string tag, Value.slice at_ lat kat, Value.int .i64 p, Value.slice ac lc cc] 132 (0, 0)) := by
        rw [← hW2]; have := heap_alloc_new (w.alloc (Obj.cells #[Value.slice (some ⟨b, o, none⟩) len cap] 24)) (Obj.cells #[Value.string tag, Value.slice at_ lat kat, Value.int .i64 p, Value.slice ac lc cc] 132); rwa [alloc_size] at this
      have z0 : W2.cell? ⟨w.heap.size, 0, none⟩ = some (Value.slice (some ⟨b, o, none⟩) len cap) := cell_of_row _ _ 0 _ _ _ x2
      have z2 : W2.cell? ⟨w.heap.size + 1, 2, none⟩ = some (Value.int .i64 p) := cell_of_row _ _ 2 _ _ _ y2
      have z3 : W2.cell? ⟨w.heap.size + 1, 3, none⟩ = some (Value.slice ac lc cc) := cell_of_row _ _ 3 _ _ _ y2
      have HW2 := Lib.hid hW2
      have HX := Lib.hid (And.intro x2 (And.intro s2 y2))
      clear hW2 x2 s2 y2
      rcases Int.lt_or_le p 0 with hneg | hpos
      · obtain rfl : p = -1 := by omega
        by_cases hi0 : i = 0
        · subst hi0
          simp only [Nat.zero_mul, Nat.add_zero] at p0 p1 p2 p3
          go_enter Tryz.func98, Tryz.ntmps98
          go_wp2_with fail
          rw [HW2.out]
          go_loopw [56] (fun x56 wr => ∃ k : Nat, k ≤ lc ∧ x56 = .int .i64 k ∧ Below w.heap.size w wr ∧ wr.cell? ⟨w.heap.size, 0, none⟩ = some (Value.slice (some ⟨b, o, none⟩) len cap) ∧ ∃ c, wr.heap[w.heap.size + 1 + 1]? = some (.cells c 4 (0, 0)) ∧ c.size = len ∧ Seen rows len 0 ((ints rc lc).take k) c) (fun x56 _ => lc - (intOf x56).toNat)
          case atStart =>
            refine ⟨0, by omega, rfl, HB2.out.alloc HB2.out.size _, ?_, madeCells #[.bool false] len, ?_, size_madeCells _ _, Seen.start rc lc⟩
            · exact cell_of_row _ _ 0 _ _ _ ((Below.heap_alloc W2 _ _ (by have := HX.out.2.1; omega)).trans HX.out.1)
            · have := heap_alloc_new W2 (.cells (madeCells #[.bool false] len) 4); rw [HX.out.2.1] at this; exact this
          case round =>
            obtain ⟨k, hk, rfl, hB, zz, c, hc1, hc2, hc3⟩ := hrel
            by_cases hlt : k < lc
            · obtain ⟨hrc, htc⟩ := HRC.out
              obtain ⟨a', b', o', e1, hlr, h4⟩ := row_at hrc HF.out
              have hrk : rc[k]? = some (rc[k]'(by omega)) := List.getElem?_eq_getElem _
              generalize rc[k]'(by omega) = rk at hrk
              obtain ⟨e2, _, hbl', hrd⟩ := h4 k rk hrk
              obtain rfl : ac = some ⟨b', o', none⟩ := by injection e1 with e1; exact e1.trans e2
              obtain ⟨c0, cs0, rfl, k0, kn⟩ := (ht_at _ _ _ htc hrk).cons
              obtain rfl := kn.nil
              obtain ⟨y, rfl⟩ := ht_int k0
              have HKY := Lib.hid (kidOf_at hrk hlt)
              simp only [RdRow, Rd, exists_eq_right, Nat.mul_one] at hrd
              have py := (hB.cell (p := ⟨b', o' + k, none⟩) hbl').trans hrd.1
              have HB := Lib.hid hB
              have HC := Lib.hid (And.intro hc1 (And.intro hc2 hc3))
              clear hB hrc htc hrd h4 e1 e2 k0 hc1 hc2 hc3
              rcases Int.lt_or_le y 0 with hy | hy
              · go_wp2
                go_ret
                exact ⟨⟨false, rfl, fun h => by cases h⟩, HB.out⟩
              · by_cases hy2 : (len : Int) ≤ y
                · have hy3 : decide (y < 0) = false := by simp; omega
                  go_wp2
                  go_ret
                  exact ⟨⟨false, rfl, fun h => by cases h⟩, HB.out⟩
                · obtain ⟨yn, rfl⟩ := Int.eq_ofNat_of_zero_le hy
                  have hyn : yn < len := by omega
                  obtain ⟨hc1, hc2, hc3⟩ := HC.out
                  obtain ⟨bb, hbd, hbb⟩ : ∃ bb, bb = decide ((yn : Int) ∈ (ints rc lc).take k) ∧ c[yn]? = some (.bool bb) := ⟨_, rfl, hc3.bits yn hyn⟩
                  have zs : wr.cell? ⟨w.heap.size + 1 + 1, yn, none⟩ = some (.bool bb) := by rw [cell_of_row _ _ _ _ _ _ hc1]; exact hbb
                  have fs : wr.frozen? ⟨w.heap.size + 1 + 1, yn, none⟩ = false := by simp [World.frozen?, hc1]
                  have hrn : rows[yn]? = some (rows[yn]'(by omega)) := List.getElem?_eq_getElem _
                  generalize rows[yn]'(by omega) = rn at hrn
                  obtain ⟨_, _, _, hrd⟩ := H3.out yn rn hrn
                  obtain ⟨_, _, _, _, _, pp, _, _, _, _, rfl, _, _, _, _, _, _, n2, _⟩ := node_at hrn HT.out hrd
                  have HPP := Lib.hid (par_is hrn)
                  have HBD := Lib.hid hbd
                  have pn2 := (HB.out.cell (p := ⟨b, o + yn * 4 + 2, none⟩) hbl).trans n2
                  have hy4 : decide ((yn : Int) < 0) = false := by simp <;> omega
                  have hy5 : decide ((len : Int) ≤ (yn : Int)) = false := by simp <;> omega
                  have hy6 : decide (len ≤ yn) = false := by simp <;> omega
                  clear hc1 hc2 hc3 hbb hrd n2 hbd hrn
                  cases bb with
                  | true =>
                    go_wp2
                    go_ret
                    exact ⟨⟨false, rfl, fun h => by cases h⟩, HB.out⟩
                  | false =>
                    by_cases hpi : pp = (0 : Int)
                    · have hpi2 : (pp != (0 : Int)) = false := by simp [hpi]
                      go_wp2
                      go_roundw
                      case rel =>
                        obtain ⟨hc1, hc2, hc3⟩ := HC.out
                        refine ⟨k + 1, by omega, by go_num, HB.out.setCell (p := ⟨w.heap.size + 1 + 1, yn, none⟩) (by show w.heap.size ≤ w.heap.size + 1 + 1; omega) _, ?_, c.setIfInBounds yn (.bool true), heap_setCell_at hc1, by rw [Array.size_setIfInBounds]; exact hc2, hc3.push hc2 HKY.out hyn (by rw [HPP.out]; exact hpi) (of_decide_eq_false HBD.out.symm)⟩
                        · exact out_cell zz (Below.heap_setCell _ _ _ _ (by show w.heap.size ≠ w.heap.size + 1 + 1; omega))
                      case measure => simp [intOf]; omega
                    · have hpi2 : (pp != (0 : Int)) = true := by simp; omega
                      go_wp2
                      go_ret
                      exact ⟨⟨false, rfl, fun h => by cases h⟩, HB.out⟩
            · obtain rfl : k = lc := by omega
              have HB := Lib.hid hB
              have HKIN := Lib.hid (Seen.kin HRI.out hc3 hp1 hp2 (fun h => by omega))
              clear hB hc1 hc2 hc3
              go_wp2
              go_ret
              exact ⟨⟨true, rfl, fun _ => HKIN.out⟩, HB.out⟩
        · have hi1 : ((i : Int) == 0) = false := by simp; omega
          go_enter Tryz.func98, Tryz.ntmps98
          go_wp2_with fail
          rw [HW2.out]
          go_loopw [56] (fun x56 wr => ∃ k : Nat, k ≤ lc ∧ x56 = .int .i64 k ∧ Below w.heap.size w wr ∧ wr.cell? ⟨w.heap.size, 0, none⟩ = some (Value.slice (some ⟨b, o, none⟩) len cap) ∧ ∃ c, wr.heap[w.heap.size + 1 + 1]? = some (.cells c 4 (0, 0)) ∧ c.size = len ∧ Seen rows len i ((ints rc lc).take k) c) (fun x56 _ => lc - (intOf x56).toNat)
          case atStart =>
            refine ⟨0, by omega, rfl, HB2.out.alloc HB2.out.size _, ?_, madeCells #[.bool false] len, ?_, size_madeCells _ _, Seen.start rc lc⟩
            · exact cell_of_row _ _ 0 _ _ _ ((Below.heap_alloc W2 _ _ (by have := HX.out.2.1; omega)).trans HX.out.1)
            · have := heap_alloc_new W2 (.cells (madeCells #[.bool false] len) 4); rw [HX.out.2.1] at this; exact this
          case round =>
            obtain ⟨k, hk, rfl, hB, zz, c, hc1, hc2, hc3⟩ := hrel
            by_cases hlt : k < lc
            · obtain ⟨hrc, htc⟩ := HRC.out
              obtain ⟨a', b', o', e1, hlr, h4⟩ := row_at hrc HF.out
              have hrk : rc[k]? = some (rc[k]'(by omega)) := List.getElem?_eq_getElem _
              generalize rc[k]'(by omega) = rk at hrk
              obtain ⟨e2, _, hbl', hrd⟩ := h4 k rk hrk
              obtain rfl : ac = some ⟨b', o', none⟩ := by injection e1 with e1; exact e1.trans e2
              obtain ⟨c0, cs0, rfl, k0, kn⟩ := (ht_at _ _ _ htc hrk).cons
              obtain rfl := kn.nil
              obtain ⟨y, rfl⟩ := ht_int k0
              have HKY := Lib.hid (kidOf_at hrk hlt)
              simp only [RdRow, Rd, exists_eq_right, Nat.mul_one] at hrd
              have py := (hB.cell (p := ⟨b', o' + k, none⟩) hbl').trans hrd.1
              have HB := Lib.hid hB
              have HC := Lib.hid (And.intro hc1 (And.intro hc2 hc3))
              clear hB hrc htc hrd h4 e1 e2 k0 hc1 hc2 hc3
              rcases Int.lt_or_le y 0 with hy | hy
              · go_wp2
                go_ret
                exact ⟨⟨false, rfl, fun h => by cases h⟩, HB.out⟩
              · by_cases hy2 : (len : Int) ≤ y
                · have hy3 : decide (y < 0) = false := by simp; omega
                  go_wp2
                  go_ret
                  exact ⟨⟨false, rfl, fun h => by cases h⟩, HB.out⟩
                · obtain ⟨yn, rfl⟩ := Int.eq_ofNat_of_zero_le hy
                  have hyn : yn < len := by omega
                  obtain ⟨hc1, hc2, hc3⟩ := HC.out
                  obtain ⟨bb, hbd, hbb⟩ : ∃ bb, bb = decide ((yn : Int) ∈ (ints rc lc).take k) ∧ c[yn]? = some (.bool bb) := ⟨_, rfl, hc3.bits yn hyn⟩
                  have zs : wr.cell? ⟨w.heap.size + 1 + 1, yn, none⟩ = some (.bool bb) := by rw [cell_of_row _ _ _ _ _ _ hc1]; exact hbb
                  have fs : wr.frozen? ⟨w.heap.size + 1 + 1, yn, none⟩ = false := by simp [World.frozen?, hc1]
                  have hrn : rows[yn]? = some (rows[yn]'(by omega)) := List.getElem?_eq_getElem _
                  generalize rows[yn]'(by omega) = rn at hrn
                  obtain ⟨_, _, _, hrd⟩ := H3.out yn rn hrn
                  obtain ⟨_, _, _, _, _, pp, _, _, _, _, rfl, _, _, _, _, _, _, n2, _⟩ := node_at hrn HT.out hrd
                  have HPP := Lib.hid (par_is hrn)
                  have HBD := Lib.hid hbd
                  have pn2 := (HB.out.cell (p := ⟨b, o + yn * 4 + 2, none⟩) hbl).trans n2
                  have hy4 : decide ((yn : Int) < 0) = false := by simp <;> omega
                  have hy5 : decide ((len : Int) ≤ (yn : Int)) = false := by simp <;> omega
                  have hy6 : decide (len ≤ yn) = false := by simp <;> omega
                  clear hc1 hc2 hc3 hbb hrd n2 hbd hrn
                  cases bb with
                  | true =>
                    go_wp2
                    go_ret
                    exact ⟨⟨false, rfl, fun h => by cases h⟩, HB.out⟩
                  | false =>
                    by_cases hpi : pp = (i : Int)
                    · have hpi2 : (pp != (i : Int)) = false := by simp [hpi]
                      go_wp2
                      go_roundw
                      case rel =>
                        obtain ⟨hc1, hc2, hc3⟩ := HC.out
                        refine ⟨k + 1, by omega, by go_num, HB.out.setCell (p := ⟨w.heap.size + 1 + 1, yn, none⟩) (by show w.heap.size ≤ w.heap.size + 1 + 1; omega) _, ?_, c.setIfInBounds yn (.bool true), heap_setCell_at hc1, by rw [Array.size_setIfInBounds]; exact hc2, hc3.push hc2 HKY.out hyn (by rw [HPP.out]; exact hpi) (of_decide_eq_false HBD.out.symm)⟩
                        · exact out_cell zz (Below.heap_setCell _ _ _ _ (by show w.heap.size ≠ w.heap.size + 1 + 1; omega))
                      case measure => simp [intOf]; omega
                    · have hpi2 : (pp != (i : Int)) = true := by simp; omega
                      go_wp2
                      go_ret
                      exact ⟨⟨false, rfl, fun h => by cases h⟩, HB.out⟩
            · obtain rfl : k = lc := by omega
              have HB := Lib.hid hB
              have HKIN := Lib.hid (Seen.kin HRI.out hc3 hp1 hp2 (fun h => by omega))
              clear hB hc1 hc2 hc3
              go_wp2
              go_ret
              exact ⟨⟨true, rfl, fun _ => HKIN.out⟩, HB.out⟩
      · obtain ⟨pn, rfl⟩ := Int.eq_ofNat_of_zero_le hpos
        have hi0 : i ≠ 0 := fun h => hr0 ⟨h, by omega⟩
        have hi1 : ((i : Int) == 0) = false := by simp; omega
        have hrp : rows[pn]? = some (rows[pn]'(by omega)) := List.getElem?_eq_getElem _
        generalize rows[pn]'(by omega) = rp at hrp
        obtain ⟨_, _, _, hrdp⟩ := H3.out pn rp hrp
        obtain ⟨_, _, _, _, _, _, acp, lcp, ccp, rcp, rfl, _, _, hcp, htp, _, _, _, np3⟩ := node_at hrp HT.out hrdp
        have npw := (HB2.out.cell (p := ⟨b, o + pn * 4 + 3, none⟩) hbl).trans np3
        have hlcp : lcp ≤ 1099511627776 := by
          have h1 := nodesRow_at rows pn _ hrp
          simp only [nodesRow, nodes] at h1
          have h3 := nodesRows_len rcp
          have h4 := hcp
          simp only [Rd] at h4
          obtain ⟨_, _, h5, _⟩ := h4
          omega
        have hcc := contains2_ok tab F W2 (.slice acp lcp ccp) i lcp ccp rcp (Rd.mono (fun k hk => ⟨hk, HB2.out.block k (HF.out k hk)⟩) _ _ hcp) htp (fun k hk => Nat.lt_of_lt_of_le (HF.out k hk) HB2.out.size) hlcp
        have HCC := Lib.hid hcc
        have HRP := Lib.hid hrp
        clear hcc hcp htp hrdp
        have hpn2 : decide ((pn : Int) < -1) = false := by simp <;> omega
        have z3a : ∀ X, (W2.alloc X).cell? ⟨w.heap.size + 1, 3, none⟩ = some (Value.slice ac lc cc) := fun X => out_cell z3 (Below.heap_alloc _ _ _ (by have := HX.out.2.1; omega))
        have z0a : ∀ X, (W2.alloc X).cell? ⟨w.heap.size, 0, none⟩ = some (Value.slice (some ⟨b, o, none⟩) len cap) := fun X => out_cell z0 (Below.heap_alloc _ _ _ (by have := HX.out.2.1; omega))
        go_enter Tryz.func98, Tryz.ntmps98
        go_wp2_with fail
        rw [HW2.out]
        refine HCC.out.mono ?_
        rintro e w' ⟨⟨bb, rfl, hbm⟩, hw'⟩
        have HBM := Lib.hid hbm
        clear hbm
        rw [hw']
        clear hw'
        cases bb with
        | false =>
          go_wp2_with fail
          go_ret
          exact ⟨⟨false, rfl, fun h => by cases h⟩, HB2.out⟩
        | true =>
          have HUP : Hid ((i : Int) ∈ kids rows (pn : Int).toNat) := Lib.hid (by rw [Int.toNat_natCast, kids_is HRP.out]; exact HBM.out rfl)
          go_wp2_with fail
          go_loopw [56] (fun x56 wr => ∃ k : Nat, k ≤ lc ∧ x56 = .int .i64 k ∧ Below w.heap.size w wr ∧ wr.cell? ⟨w.heap.size, 0, none⟩ = some (Value.slice (some ⟨b, o, none⟩) len cap) ∧ ∃ c, wr.heap[W2.heap.size]? = some (.cells c 4 (0, 0)) ∧ c.size = len ∧ Seen rows len i ((ints rc lc).take k) c) (fun x56 _ => lc - (intOf x56).toNat)
          case atStart =>
            refine ⟨0, by omega, rfl, HB2.out.alloc HB2.out.size _, ?_, madeCells #[.bool false] len, ?_, size_madeCells _ _, Seen.start rc lc⟩
            · exact cell_of_row _ _ 0 _ _ _ ((Below.heap_alloc W2 _ _ (by have := HX.out.2.1; omega)).trans HX.out.1)
            · have := heap_alloc_new W2 (.cells (madeCells #[.bool false] len) 4); exact this
          case round =>
            obtain ⟨k, hk, rfl, hB, zz, c, hc1, hc2, hc3⟩ := hrel
            by_cases hlt : k < lc
            · obtain ⟨hrc, htc⟩ := HRC.out
              obtain ⟨a', b', o', e1, hlr, h4⟩ := row_at hrc HF.out
              have hrk : rc[k]? = some (rc[k]'(by omega)) := List.getElem?_eq_getElem _
              generalize rc[k]'(by omega) = rk at hrk
              obtain ⟨e2, _, hbl', hrd⟩ := h4 k rk hrk
              obtain rfl : ac = some ⟨b', o', none⟩ := by injection e1 with e1; exact e1.trans e2
              obtain ⟨c0, cs0, rfl, k0, kn⟩ := (ht_at _ _ _ htc hrk).cons
              obtain rfl := kn.nil
              obtain ⟨y, rfl⟩ := ht_int k0
              have HKY := Lib.hid (kidOf_at hrk hlt)
              simp only [RdRow, Rd, exists_eq_right, Nat.mul_one] at hrd
              have py := (hB.cell (p := ⟨b', o' + k, none⟩) hbl').trans hrd.1
              have HB := Lib.hid hB
              have HC := Lib.hid (And.intro hc1 (And.intro hc2 hc3))
              clear hB hrc htc hrd h4 e1 e2 k0 hc1 hc2 hc3
              rcases Int.lt_or_le y 0 with hy | hy
              · go_wp2
                go_ret
                exact ⟨⟨false, rfl, fun h => by cases h⟩, HB.out⟩
              · by_cases hy2 : (len : Int) ≤ y
                · have hy3 : decide (y < 0) = false := by simp; omega
                  go_wp2
                  go_ret
                  exact ⟨⟨false, rfl, fun h => by cases h⟩, HB.out⟩
                · obtain ⟨yn, rfl⟩ := Int.eq_ofNat_of_zero_le hy
                  have hyn : yn < len := by omega
                  obtain ⟨hc1, hc2, hc3⟩ := HC.out
                  obtain ⟨bb, hbd, hbb⟩ : ∃ bb, bb = decide ((yn : Int) ∈ (ints rc lc).take k) ∧ c[yn]? = some (.bool bb) := ⟨_, rfl, hc3.bits yn hyn⟩
                  have zs : wr.cell? ⟨W2.heap.size, yn, none⟩ = some (.bool bb) := by rw [cell_of_row _ _ _ _ _ _ hc1]; exact hbb
                  have fs : wr.frozen? ⟨W2.heap.size, yn, none⟩ = false := by simp [World.frozen?, hc1]
                  have hrn : rows[yn]? = some (rows[yn]'(by omega)) := List.getElem?_eq_getElem _
                  generalize rows[yn]'(by omega) = rn at hrn
                  obtain ⟨_, _, _, hrd⟩ := H3.out yn rn hrn
                  obtain ⟨_, _, _, _, _, pp, _, _, _, _, rfl, _, _, _, _, _, _, n2, _⟩ := node_at hrn HT.out hrd
                  have HPP := Lib.hid (par_is hrn)
                  have HBD := Lib.hid hbd
                  have pn2 := (HB.out.cell (p := ⟨b, o + yn * 4 + 2, none⟩) hbl).trans n2
                  have hy4 : decide ((yn : Int) < 0) = false := by simp <;> omega
                  have hy5 : decide ((len : Int) ≤ (yn : Int)) = false := by simp <;> omega
                  have hy6 : decide (len ≤ yn) = false := by simp <;> omega
                  clear hc1 hc2 hc3 hbb hrd n2 hbd hrn
                  cases bb with
                  | true =>
                    go_wp2
                    go_ret
                    exact ⟨⟨false, rfl, fun h => by cases h⟩, HB.out⟩
                  | false =>
                    by_cases hpi : pp = (i : Int)
                    · have hpi2 : (pp != (i : Int)) = false := by simp [hpi]
                      go_wp2
                      go_roundw
                      case rel =>
                        obtain ⟨hc1, hc2, hc3⟩ := HC.out
                        refine ⟨k + 1, by omega, by go_num, HB.out.setCell (p := ⟨W2.heap.size, yn, none⟩) (by show w.heap.size ≤ W2.heap.size; have := HX.out.2.1; omega) _, ?_, c.setIfInBounds yn (.bool true), heap_setCell_at hc1, by rw [Array.size_setIfInBounds]; exact hc2, hc3.push hc2 HKY.out hyn (by rw [HPP.out]; exact hpi) (of_decide_eq_false HBD.out.symm)⟩
                        · exact out_cell zz (Below.heap_setCell _ _ _ _ (by show w.heap.size ≠ W2.heap.size; have := HX.out.2.1; omega))
                      case measure => simp [intOf]; omega
                    · have hpi2 : (pp != (i : Int)) = true := by simp; omega
                      go_wp2
                      go_ret
                      exact ⟨⟨false, rfl, fun h => by cases h⟩, HB.out⟩
            · obtain rfl : k = lc := by omega
              have HB := Lib.hid hB
              have HKIN := Lib.hid (Seen.kin HRI.out hc3 hp1 hp2 (fun _ => HUP.out))
              clear hB hc1 hc2 hc3
              go_wp2
              go_ret
              exact ⟨⟨true, rfl, fun _ => HKIN.out⟩, HB.out⟩
end Go.Proofs.YtgkamgijnhbcbaaGreatDoor
