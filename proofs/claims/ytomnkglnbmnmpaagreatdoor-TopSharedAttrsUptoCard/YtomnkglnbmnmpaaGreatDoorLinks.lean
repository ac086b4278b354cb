/- attrs.Get and package link: they leave the memory, and answer in new memory. -/
import Derived.Test.YtomnkglnbmnmpaaGreatDoorListDown
import Derived.Test.YtomnkglnbmnmpaaGreatDoorBeside
import Derived.Test.YtomnkglnbmnmpaaGreatDoorFind
import Derived.WalkKit
import Derived.WalkSpells
import Derived.WalkLawsBesides
import Derived.Deep.AppendLies
import Derived.Test.YtomnkglnbmnmpaaGreatDoorCompare
namespace Go.Proofs.YtomnkglnbmnmpaaGreatDoor
open Go.RowKit Go.Vt Go.Proofs
set_option maxRecDepth 100000 in
/-- attrs.check. -/
theorem acheck_ok (F : Nat → Prop) (w : World) (a : Option Addr) (x : Int) (len cap : Nat) (rows : List (List C)) (hr : Rd F w (.sl 4 len cap rows) (.slice a len cap)) (ht : HtRows tab [.str, .sl 116, .int .i64, .sl 3] rows) (hF : ∀ k, F k → k < w.heap.size) (hnn : nodesRows rows ≤ 1099511627776) :
    Calls Tryz.prog 80 #[.agg #[.slice a len cap], .int .i64 x] w fun e w' => (∃ n : Int, e = .returned (.int .i64 n) ∧ (n = 0 → Good2 rows len ∧ (0 ≤ x ∧ x < len))) ∧ Below w.heap.size w w' := by
  obtain ⟨W, hW⟩ : ∃ W, W = w.alloc (Obj.cells #[.slice a len cap] 24) := ⟨_, rfl⟩
  have hb : Below w.heap.size w W := by rw [hW]; exact (Below.refl _ _).alloc (Nat.le_refl _) _
  have s1 : W.heap.size = w.heap.size + 1 := by rw [hW, alloc_size]
  have x1 : W.heap[w.heap.size]? = some (.cells #[.slice a len cap] 24 (0, 0)) := by rw [hW]; exact heap_alloc_new w _
  have hc := check2_ok F W (.slice a len cap) len cap rows (Rd.mono (fun k hk => ⟨hk, hb.block k (hF k hk)⟩) _ _ hr) ht (fun k hk => Nat.lt_of_lt_of_le (hF k hk) hb.size) hnn
  have c0 : W.cell? ⟨w.heap.size, 0, none⟩ = some (.slice a len cap) := cell_of_row _ _ 0 _ _ _ x1
  have HC := Lib.hid hc
  have HW := Lib.hid hW
  have HB := Lib.hid hb
  have HR := Lib.hid hr
  have HF := Lib.hid hF
  have HT := Lib.hid ht
  have HX := Lib.hid (And.intro x1 s1)
  clear hc hW hb hr ht hF x1 s1
  go_enter Tryz.func80, Tryz.ntmps80
  go_wp2_with fail
  rw [← HW.out]
  go_wp2_with fail
  refine HC.out.mono ?_
  rintro e w1 ⟨⟨n, rfl, hn⟩, hb1⟩
  have HN := Lib.hid hn
  have hb2 := HB.out.trans (hb1.mono HB.out.size)
  have x2 : w1.heap[w.heap.size]? = some (.cells #[.slice a len cap] 24 (0, 0)) := (hb1.block _ (by have := HX.out.2; omega)).trans HX.out.1
  have c1 : w1.cell? ⟨w.heap.size, 0, none⟩ = some (.slice a len cap) := cell_of_row _ _ 0 _ _ _ x2
  have s2 : w.heap.size + 1 ≤ w1.heap.size := by have := HX.out.2; have := hb1.size; omega
  have HB2 := Lib.hid hb2
  have HX2 := Lib.hid x2
  clear hn hb1 hb2 c0 x2
  by_cases hn0 : n = 0
  case neg =>
    have hn1 : (n != 0) = true := by simp [hn0]
    go_wp2_with fail
    go_ret
    exact ⟨⟨n, rfl, fun h => absurd h hn0⟩, HB2.out⟩
  case pos =>
    subst hn0
    have hG := HN.out (by first | trivial | rfl)
    have HG := Lib.hid hG
    clear hG
    by_cases h0 : x < 0
    · go_wp2_with fail
      go_ret
      exact ⟨⟨2, rfl, fun h => by omega⟩, HB2.out⟩
    · have h0' : decide (x < 0) = false := by simp; omega
      by_cases h1 : (len : Int) ≤ x
      · go_wp2_with fail
        go_ret
        exact ⟨⟨2, rfl, fun h => by omega⟩, HB2.out⟩
      · have h1' : decide ((len : Int) ≤ x) = false := by simp; omega
        go_wp2_with fail
        go_ret
        exact ⟨⟨0, rfl, fun _ => ⟨HG.out, by omega, by omega⟩⟩, HB2.out⟩
/-- A text and an error; without an error the tree is well made, and the element lies in it. -/
def GetP (rows : List (List C)) (len : Nat) (x : Int) (e : Ending) : Prop := ∃ (s : ByteArray) (n : Int), e = .returned (.tuple #[.string s, .int .i64 n]) ∧ (n = 0 → Good2 rows len ∧ (0 ≤ x ∧ x < len))
theorem attrs_le {F : Nat → Prop} {w : World} {v : Value} {rows ats : List (List C)} {i sz s2 len cc c2 : Nat} {a b c : C} (hri : rows[i]? = some [a, .sl sz len cc ats, b, c]) (hr : Rd F w (.sl s2 len c2 ats) v) (hnn : nodesRows rows ≤ 1099511627776) : len ≤ 1099511627776 := by
  have h2 := nodesRow_at rows i _ hri
  simp only [nodesRow, nodes] at h2
  have h3 := nodesRows_len ats
  simp only [Rd] at hr
  obtain ⟨_, _, h5, _⟩ := hr
  omega
set_option maxRecDepth 100000 in
set_option maxHeartbeats 1000000 in
/-- attrs.Get. -/
theorem get_ok (F : Nat → Prop) (w : World) (a : Option Addr) (x : Int) (nm : ByteArray) (len cap : Nat) (rows : List (List C)) (hr : Rd F w (.sl 4 len cap rows) (.slice a len cap)) (ht : HtRows tab [.str, .sl 116, .int .i64, .sl 3] rows) (hF : ∀ k, F k → k < w.heap.size) (hnn : nodesRows rows ≤ 1099511627776) :
    Calls Tryz.prog 25 #[.agg #[.slice a len cap], .int .i64 x, .string nm] w fun e w' => GetP rows len x e ∧ Below w.heap.size w w' := by
  obtain ⟨a0, b, o, ha0, h2, h3⟩ := row_at hr hF
  obtain rfl : a = a0 := by injection ha0 with ha0
  obtain ⟨W, hW⟩ : ∃ W, W = w.alloc (Obj.cells #[.slice a len cap] 24) := ⟨_, rfl⟩
  have hb : Below w.heap.size w W := by rw [hW]; exact (Below.refl _ _).alloc (Nat.le_refl _) _
  have s1 : W.heap.size = w.heap.size + 1 := by rw [hW, alloc_size]
  have x1 : W.heap[w.heap.size]? = some (.cells #[.slice a len cap] 24 (0, 0)) := by rw [hW]; exact heap_alloc_new w _
  have hc := acheck_ok F W a x len cap rows (Rd.mono (fun k hk => ⟨hk, hb.block k (hF k hk)⟩) _ _ hr) ht (fun k hk => Nat.lt_of_lt_of_le (hF k hk) hb.size) hnn
  have c0 : W.cell? ⟨w.heap.size, 0, none⟩ = some (.slice a len cap) := cell_of_row _ _ 0 _ _ _ x1
  have H3 := Lib.hid h3
  clear h3
  have HC := Lib.hid hc
  have HW := Lib.hid hW
  have HB := Lib.hid hb
  have HR := Lib.hid hr
  have HF := Lib.hid hF
  have HT := Lib.hid ht
  have HX := Lib.hid (And.intro x1 s1)
  clear hc hW hb hr ht hF x1 s1
  go_enter Tryz.func25, Tryz.ntmps25
  go_wp2_with fail
  rw [← HW.out]
  go_wp2_with fail
  refine HC.out.mono ?_
  rintro e w1 ⟨⟨n, rfl, hn⟩, hb1⟩
  have HN := Lib.hid hn
  have hb2 := HB.out.trans (hb1.mono HB.out.size)
  have x2 : w1.heap[w.heap.size]? = some (.cells #[.slice a len cap] 24 (0, 0)) := (hb1.block _ (by have := HX.out.2; omega)).trans HX.out.1
  have c1 : w1.cell? ⟨w.heap.size, 0, none⟩ = some (.slice a len cap) := cell_of_row _ _ 0 _ _ _ x2
  have s2 : w.heap.size + 1 ≤ w1.heap.size := by have := HX.out.2; have := hb1.size; omega
  have HB2 := Lib.hid hb2
  have HX2 := Lib.hid x2
  clear hn hb1 hb2 c0 x2
  by_cases hn0 : n = 0
  case neg =>
    have hn1 : (n != 0) = true := by simp [hn0]
    go_wp2_with fail
    go_ret2
    exact ⟨⟨_, n, rfl, fun h => absurd h hn0⟩, HB2.out⟩
  case pos =>
    subst hn0
    obtain ⟨hG, hx1, hx2⟩ := HN.out (by first | trivial | rfl)
    obtain ⟨xn, rfl⟩ := Int.eq_ofNat_of_zero_le hx1
    have HG := Lib.hid hG
    have hrk : rows[xn]? = some (rows[xn]'(by omega)) := List.getElem?_eq_getElem _
    generalize rows[xn]'(by omega) = rk at hrk
    obtain ⟨rfl, _, hbl, hrd⟩ := H3.out xn rk hrk
    obtain ⟨_, at_, lat, kat, ats, _, _, _, _, _, rfl, hra, hta, _, _, _, n1, _, _⟩ := node_at hrk HT.out hrd
    have q1 := (HB2.out.cell (p := ⟨b, o + xn * 4 + 1, none⟩) hbl).trans n1
    have hla := attrs_le hrk hra hnn
    have hf := find_ok F w1 (.slice at_ lat kat) nm lat kat ats (Rd.mono (fun k hk => ⟨hk, HB2.out.block k (HF.out k hk)⟩) _ _ hra) hta (fun k hk => Nat.lt_of_lt_of_le (HF.out k hk) HB2.out.size) hla
    have HFD := Lib.hid hf
    have HRA := Lib.hid (And.intro hra hta)
    clear hf hG hrk hrd hra hta n1
    go_wp2_with fail
    refine HFD.out.mono ?_
    rintro e w2 ⟨⟨k, fd, rfl, hk1, hk2⟩, hb3⟩
    have hb4 := HB2.out.trans (hb3.mono HB2.out.size)
    have q2 := (hb3.cell (p := ⟨b, o + xn * 4 + 1, none⟩) (by have := HB2.out.size; show b < w1.heap.size; omega)).trans q1
    have c2 : w2.cell? ⟨w.heap.size, 0, none⟩ = some (.slice (some ⟨b, o, none⟩) len cap) := (hb3.cell (by show w.heap.size < w1.heap.size; omega)).trans c1
    have HB4 := Lib.hid hb4
    clear hb3 hb4 q1 c1
    cases fd with
    | false =>
      go_wp2_with fail
      go_ret2
      exact ⟨⟨_, 6, rfl, fun h => by cases h⟩, HB4.out⟩
    | true =>
      have hkl : k < lat := hk2 (by first | trivial | rfl)
      obtain ⟨hra, hta⟩ := HRA.out
      obtain ⟨a1, b1, o1, ha1, h5, h6⟩ := row_at hra HF.out
      obtain rfl : at_ = a1 := by injection ha1 with ha1
      have hrj : ats[k]? = some (ats[k]'(by omega)) := List.getElem?_eq_getElem _
      generalize ats[k]'(by omega) = rj at hrj
      obtain ⟨rfl, _, hbl1, hrd⟩ := h6 k rj hrj
      obtain ⟨c0, cs0, rfl, k0, t1⟩ := (ht_at _ _ _ hta hrj).cons
      obtain ⟨c1', cs1, rfl, k1, t2⟩ := t1.cons
      obtain rfl := t2.nil
      obtain ⟨s1, rfl⟩ := ht_str k0
      obtain ⟨s2, rfl⟩ := ht_str k1
      simp only [RdRow, Rd, and_true, exists_eq_right] at hrd
      have q3 := (HB4.out.cell (p := ⟨b1, o1 + k * 2 + 1, none⟩) hbl1).trans hrd.2
      clear hra hta h6 hrd k0 k1 t1 t2 ha1
      go_wp2_with fail
      go_ret2
      exact ⟨⟨_, 0, rfl, fun _ => ⟨HG.out, by omega, by omega⟩⟩, HB4.out⟩
set_option maxRecDepth 100000 in
/-- link.is, at a node of the tree. -/
theorem lis_ok (F : Nat → Prop) (w : World) (a : Option Addr) (x : Int) (len cap : Nat) (rows : List (List C)) (hr : Rd F w (.sl 4 len cap rows) (.slice a len cap)) (ht : HtRows tab [.str, .sl 116, .int .i64, .sl 3] rows) (hF : ∀ k, F k → k < w.heap.size) (hnn : nodesRows rows ≤ 1099511627776) :
    Calls Tryz.prog 97 #[.agg #[.slice a len cap], .int .i64 x] w fun e w' => IsBool e ∧ Below w.heap.size w w' := by
  obtain ⟨a0, b, o, ha0, h2, h3⟩ := row_at hr hF
  obtain rfl : a = a0 := by injection ha0 with ha0
  obtain ⟨W, hW⟩ : ∃ W, W = w.alloc (Obj.cells #[.slice a len cap] 24) := ⟨_, rfl⟩
  have hb : Below w.heap.size w W := by rw [hW]; exact (Below.refl _ _).alloc (Nat.le_refl _) _
  have s1 : W.heap.size = w.heap.size + 1 := by rw [hW, alloc_size]
  have x1 : W.heap[w.heap.size]? = some (.cells #[.slice a len cap] 24 (0, 0)) := by rw [hW]; exact heap_alloc_new w _
  have hc := get_ok F W a x ⟨#[104, 114, 101, 102]⟩ len cap rows (Rd.mono (fun k hk => ⟨hk, hb.block k (hF k hk)⟩) _ _ hr) ht (fun k hk => Nat.lt_of_lt_of_le (hF k hk) hb.size) hnn
  have c0 : W.cell? ⟨w.heap.size, 0, none⟩ = some (.slice a len cap) := cell_of_row _ _ 0 _ _ _ x1
  have H3 := Lib.hid h3
  clear h3
  have HC := Lib.hid hc
  have HW := Lib.hid hW
  have HB := Lib.hid hb
  have HR := Lib.hid hr
  have HF := Lib.hid hF
  have HT := Lib.hid ht
  have HX := Lib.hid (And.intro x1 s1)
  clear hc hW hb hr ht hF x1 s1
  go_enter Tryz.func97, Tryz.ntmps97
  go_wp2_with fail
  rw [← HW.out]
  go_wp2_with fail
  refine HC.out.mono ?_
  rintro e w1 ⟨⟨s, n, rfl, hn⟩, hb1⟩
  have HN := Lib.hid hn
  have hb2 := HB.out.trans (hb1.mono HB.out.size)
  have x2 : w1.heap[w.heap.size]? = some (.cells #[.slice a len cap] 24 (0, 0)) := (hb1.block _ (by have := HX.out.2; omega)).trans HX.out.1
  have c1 : w1.cell? ⟨w.heap.size, 0, none⟩ = some (.slice a len cap) := cell_of_row _ _ 0 _ _ _ x2
  have s2 : w.heap.size + 1 ≤ w1.heap.size := by have := HX.out.2; have := hb1.size; omega
  have HB2 := Lib.hid hb2
  have HX2 := Lib.hid x2
  clear hn hb1 hb2 c0 x2
  by_cases hn0 : n = 0
  case neg =>
    have hn1 : (n == 0) = false := by simp [hn0]
    go_wp2_with fail
    go_ret
    exact ⟨⟨_, rfl⟩, HB2.out⟩
  case pos =>
    subst hn0
    obtain ⟨hG, hx1, hx2⟩ := HN.out (by first | trivial | rfl)
    obtain ⟨xn, rfl⟩ := Int.eq_ofNat_of_zero_le hx1
    have hrk : rows[xn]? = some (rows[xn]'(by omega)) := List.getElem?_eq_getElem _
    generalize rows[xn]'(by omega) = rk at hrk
    obtain ⟨rfl, _, hbl, hrd⟩ := H3.out xn rk hrk
    obtain ⟨tag, _, _, _, _, _, _, _, _, _, rfl, _, _, _, _, n0, _⟩ := node_at hrk HT.out hrd
    have q0 := (HB2.out.cell (p := ⟨b, o + xn * 4, none⟩) hbl).trans n0
    clear hG hrk hrd n0
    go_wp2_with fail
    go_ret
    exact ⟨⟨_, rfl⟩, HB2.out⟩
set_option maxRecDepth 100000 in
/-- link.Is. -/
theorem lisq_ok (F : Nat → Prop) (w : World) (a : Option Addr) (x : Int) (len cap : Nat) (rows : List (List C)) (hr : Rd F w (.sl 4 len cap rows) (.slice a len cap)) (ht : HtRows tab [.str, .sl 116, .int .i64, .sl 3] rows) (hF : ∀ k, F k → k < w.heap.size) (hnn : nodesRows rows ≤ 1099511627776) :
    Calls Tryz.prog 60 #[.agg #[.slice a len cap], .int .i64 x] w fun e w' => (∃ (q : Bool) (n : Int), e = .returned (.tuple #[.bool q, .int .i64 n])) ∧ Below w.heap.size w w' := by
  obtain ⟨W, hW⟩ : ∃ W, W = w.alloc (Obj.cells #[.slice a len cap] 24) := ⟨_, rfl⟩
  have hb : Below w.heap.size w W := by rw [hW]; exact (Below.refl _ _).alloc (Nat.le_refl _) _
  have s1 : W.heap.size = w.heap.size + 1 := by rw [hW, alloc_size]
  have x1 : W.heap[w.heap.size]? = some (.cells #[.slice a len cap] 24 (0, 0)) := by rw [hW]; exact heap_alloc_new w _
  have hc := depth2_ok F W (.slice a len cap) x len cap rows (Rd.mono (fun k hk => ⟨hk, hb.block k (hF k hk)⟩) _ _ hr) ht (fun k hk => Nat.lt_of_lt_of_le (hF k hk) hb.size) hnn
  have c0 : W.cell? ⟨w.heap.size, 0, none⟩ = some (.slice a len cap) := cell_of_row _ _ 0 _ _ _ x1
  have HC := Lib.hid hc
  have HW := Lib.hid hW
  have HB := Lib.hid hb
  have HR := Lib.hid hr
  have HF := Lib.hid hF
  have HT := Lib.hid ht
  have HX := Lib.hid (And.intro x1 s1)
  clear hc hW hb hr ht hF x1 s1
  go_enter Tryz.func60, Tryz.ntmps60
  go_wp2_with fail
  rw [← HW.out]
  go_wp2_with fail
  refine HC.out.mono ?_
  rintro e w1 ⟨⟨d, n, rfl, hn⟩, hb1⟩
  have HN := Lib.hid hn
  have hb2 := HB.out.trans (hb1.mono HB.out.size)
  have x2 : w1.heap[w.heap.size]? = some (.cells #[.slice a len cap] 24 (0, 0)) := (hb1.block _ (by have := HX.out.2; omega)).trans HX.out.1
  have c1 : w1.cell? ⟨w.heap.size, 0, none⟩ = some (.slice a len cap) := cell_of_row _ _ 0 _ _ _ x2
  have s2 : w.heap.size + 1 ≤ w1.heap.size := by have := HX.out.2; have := hb1.size; omega
  have HB2 := Lib.hid hb2
  have HX2 := Lib.hid x2
  clear hn hb1 hb2 c0 x2
  by_cases hn0 : n = 0
  case neg =>
    have hn1 : (n != 0) = true := by simp [hn0]
    go_wp2_with fail
    go_ret2
    exact ⟨⟨_, n, rfl⟩, HB2.out⟩
  case pos =>
    subst hn0
    have hs := lis_ok F w1 a x len cap rows (Rd.mono (fun k hk => ⟨hk, HB2.out.block k (HF.out k hk)⟩) _ _ HR.out) HT.out (fun k hk => Nat.lt_of_lt_of_le (HF.out k hk) HB2.out.size) hnn
    have HS := Lib.hid hs
    clear hs
    go_wp2_with fail
    refine HS.out.mono ?_
    rintro e w2 ⟨⟨q, rfl⟩, hb3⟩
    have hb4 := HB2.out.trans (hb3.mono HB2.out.size)
    clear hb3
    go_wp2_with fail
    go_ret2
    exact ⟨⟨_, 0, rfl⟩, hb4⟩
set_option maxRecDepth 100000 in
/-- link.Href. -/
theorem href_ok (F : Nat → Prop) (w : World) (a : Option Addr) (x : Int) (len cap : Nat) (rows : List (List C)) (hr : Rd F w (.sl 4 len cap rows) (.slice a len cap)) (ht : HtRows tab [.str, .sl 116, .int .i64, .sl 3] rows) (hF : ∀ k, F k → k < w.heap.size) (hnn : nodesRows rows ≤ 1099511627776) :
    Calls Tryz.prog 62 #[.agg #[.slice a len cap], .int .i64 x] w fun e w' => (∃ (q : ByteArray) (n : Int), e = .returned (.tuple #[.string q, .int .i64 n])) ∧ Below w.heap.size w w' := by
  obtain ⟨W, hW⟩ : ∃ W, W = w.alloc (Obj.cells #[.slice a len cap] 24) := ⟨_, rfl⟩
  have hb : Below w.heap.size w W := by rw [hW]; exact (Below.refl _ _).alloc (Nat.le_refl _) _
  have s1 : W.heap.size = w.heap.size + 1 := by rw [hW, alloc_size]
  have x1 : W.heap[w.heap.size]? = some (.cells #[.slice a len cap] 24 (0, 0)) := by rw [hW]; exact heap_alloc_new w _
  have hc := depth2_ok F W (.slice a len cap) x len cap rows (Rd.mono (fun k hk => ⟨hk, hb.block k (hF k hk)⟩) _ _ hr) ht (fun k hk => Nat.lt_of_lt_of_le (hF k hk) hb.size) hnn
  have c0 : W.cell? ⟨w.heap.size, 0, none⟩ = some (.slice a len cap) := cell_of_row _ _ 0 _ _ _ x1
  have HC := Lib.hid hc
  have HW := Lib.hid hW
  have HB := Lib.hid hb
  have HR := Lib.hid hr
  have HF := Lib.hid hF
  have HT := Lib.hid ht
  have HX := Lib.hid (And.intro x1 s1)
  clear hc hW hb hr ht hF x1 s1
  go_enter Tryz.func62, Tryz.ntmps62
  go_wp2_with fail
  rw [← HW.out]
  go_wp2_with fail
  refine HC.out.mono ?_
  rintro e w1 ⟨⟨d, n, rfl, hn⟩, hb1⟩
  have HN := Lib.hid hn
  have hb2 := HB.out.trans (hb1.mono HB.out.size)
  have x2 : w1.heap[w.heap.size]? = some (.cells #[.slice a len cap] 24 (0, 0)) := (hb1.block _ (by have := HX.out.2; omega)).trans HX.out.1
  have c1 : w1.cell? ⟨w.heap.size, 0, none⟩ = some (.slice a len cap) := cell_of_row _ _ 0 _ _ _ x2
  have s2 : w.heap.size + 1 ≤ w1.heap.size := by have := HX.out.2; have := hb1.size; omega
  have HB2 := Lib.hid hb2
  have HX2 := Lib.hid x2
  clear hn hb1 hb2 c0 x2
  by_cases hn0 : n = 0
  case neg =>
    have hn1 : (n != 0) = true := by simp [hn0]
    go_wp2_with fail
    go_ret2
    exact ⟨⟨_, n, rfl⟩, HB2.out⟩
  case pos =>
    subst hn0
    have hs := lis_ok F w1 a x len cap rows (Rd.mono (fun k hk => ⟨hk, HB2.out.block k (HF.out k hk)⟩) _ _ HR.out) HT.out (fun k hk => Nat.lt_of_lt_of_le (HF.out k hk) HB2.out.size) hnn
    have HS := Lib.hid hs
    clear hs
    go_wp2_with fail
    refine HS.out.mono ?_
    rintro e w2 ⟨⟨q, rfl⟩, hb3⟩
    have hb4 := HB2.out.trans (hb3.mono HB2.out.size)
    have c2 : w2.cell? ⟨w.heap.size, 0, none⟩ = some (.slice a len cap) := (hb3.cell (by show w.heap.size < w1.heap.size; omega)).trans c1
    have hs := get_ok F w2 a x ⟨#[104, 114, 101, 102]⟩ len cap rows (Rd.mono (fun k hk => ⟨hk, hb4.block k (HF.out k hk)⟩) _ _ HR.out) HT.out (fun k hk => Nat.lt_of_lt_of_le (HF.out k hk) hb4.size) hnn
    have HS2 := Lib.hid hs
    have HB4 := Lib.hid hb4
    clear hs hb3 hb4 c1
    cases q with
    | false =>
      go_wp2_with fail
      go_ret2
      exact ⟨⟨_, 6, rfl⟩, HB4.out⟩
    | true =>
      go_wp2_with fail
      refine HS2.out.mono ?_
      rintro e w3 ⟨⟨s, n, rfl, _⟩, hb5⟩
      have hb6 := HB4.out.trans (hb5.mono HB4.out.size)
      clear hb5
      go_wp2_with fail
      go_ret2
      exact ⟨⟨s, n, rfl⟩, hb6⟩
set_option maxRecDepth 100000 in
/-- link.Relevant. -/
theorem relevant_ok (F : Nat → Prop) (w : World) (a : Option Addr) (x : Int) (len cap : Nat) (rows : List (List C)) (hr : Rd F w (.sl 4 len cap rows) (.slice a len cap)) (ht : HtRows tab [.str, .sl 116, .int .i64, .sl 3] rows) (hF : ∀ k, F k → k < w.heap.size) (hnn : nodesRows rows ≤ 1099511627776) :
    Calls Tryz.prog 64 #[.agg #[.slice a len cap], .int .i64 x] w fun e w' => IntErrP e ∧ Below w.heap.size w w' := by
  obtain ⟨a0, b, o, ha0, h2, h3⟩ := row_at hr hF
  obtain rfl : a = a0 := by injection ha0 with ha0
  obtain ⟨W, hW⟩ : ∃ W, W = w.alloc (Obj.cells #[.slice a len cap] 24) := ⟨_, rfl⟩
  have hb : Below w.heap.size w W := by rw [hW]; exact (Below.refl _ _).alloc (Nat.le_refl _) _
  have s1 : W.heap.size = w.heap.size + 1 := by rw [hW, alloc_size]
  have x1 : W.heap[w.heap.size]? = some (.cells #[.slice a len cap] 24 (0, 0)) := by rw [hW]; exact heap_alloc_new w _
  have hc := depth2_ok F W (.slice a len cap) x len cap rows (Rd.mono (fun k hk => ⟨hk, hb.block k (hF k hk)⟩) _ _ hr) ht (fun k hk => Nat.lt_of_lt_of_le (hF k hk) hb.size) hnn
  have c0 : W.cell? ⟨w.heap.size, 0, none⟩ = some (.slice a len cap) := cell_of_row _ _ 0 _ _ _ x1
  have H3 := Lib.hid h3
  clear h3
  have HC := Lib.hid hc
  have HW := Lib.hid hW
  have HB := Lib.hid hb
  have HR := Lib.hid hr
  have HF := Lib.hid hF
  have HT := Lib.hid ht
  have HX := Lib.hid (And.intro x1 s1)
  clear hc hW hb hr ht hF x1 s1
  go_enter Tryz.func64, Tryz.ntmps64
  go_wp2_with fail
  rw [← HW.out]
  go_wp2_with fail
  refine HC.out.mono ?_
  rintro e w1 ⟨⟨d, n, rfl, hn⟩, hb1⟩
  have HN := Lib.hid hn
  have hb2 := HB.out.trans (hb1.mono HB.out.size)
  have x2 : w1.heap[w.heap.size]? = some (.cells #[.slice a len cap] 24 (0, 0)) := (hb1.block _ (by have := HX.out.2; omega)).trans HX.out.1
  have c1 : w1.cell? ⟨w.heap.size, 0, none⟩ = some (.slice a len cap) := cell_of_row _ _ 0 _ _ _ x2
  have s2 : w.heap.size + 1 ≤ w1.heap.size := by have := HX.out.2; have := hb1.size; omega
  have HB2 := Lib.hid hb2
  have HX2 := Lib.hid x2
  clear hn hb1 hb2 c0 x2
  by_cases hn0 : n = 0
  case neg =>
    have hn1 : (n != 0) = true := by simp [hn0]
    go_wp2_with fail
    go_ret2
    exact ⟨⟨_, n, rfl⟩, HB2.out⟩
  case pos =>
    subst hn0
    obtain ⟨hG, hx1, hx2⟩ := HN.out (by first | trivial | rfl)
    have HG := Lib.hid hG
    have hen : Ends rows len (len + 1) x := by
      obtain ⟨xn, rfl⟩ := Int.eq_ofNat_of_zero_le hx1
      exact hG.en xn (by omega)
    have HEN := Lib.hid hen
    clear hG hen
    go_wp2_with fail
    go_loopw [1] (fun x1 wr => ∃ k : Int, x1 = .int .i64 k ∧ -1 ≤ k ∧ k < len ∧ Ends rows len (len + 1) k ∧ Below w.heap.size w wr ∧ wr.cell? ⟨w.heap.size, 0, none⟩ = some (.slice a len cap) ∧ w.heap.size < wr.heap.size) (fun x1 _ => chainN rows (len + 1) (intOf x1))
    case atStart => exact ⟨x, rfl, by omega, hx2, HEN.out, HB2.out, c1, by omega⟩
    case round =>
      obtain ⟨k, rfl, hk1, hk2, hen, hB, hc, hs⟩ := hrel
      clear c1
      rcases Int.lt_or_le k 0 with hk | hk
      · have hk3 : decide (0 ≤ k) = false := by simp; omega
        go_wp2_with fail
        go_ret2
        exact ⟨⟨k, 0, rfl⟩, hB⟩
      · obtain ⟨kn, rfl⟩ := Int.eq_ofNat_of_zero_le hk
        have HST := Lib.hid (Ends.step (m := len) hen)
        have hl := lis_ok F wr a kn len cap rows (Rd.mono (fun k hk => ⟨hk, hB.block k (HF.out k hk)⟩) _ _ HR.out) HT.out (fun k hk => Nat.lt_of_lt_of_le (HF.out k hk) hB.size) hnn
        have HL := Lib.hid hl
        have HBr := Lib.hid hB
        clear hl hB hen
        go_wp2_with fail
        refine HL.out.mono ?_
        rintro e w2 ⟨⟨q, rfl⟩, hb3⟩
        have hb4 := HBr.out.trans (hb3.mono HBr.out.size)
        have c2 : w2.cell? ⟨w.heap.size, 0, none⟩ = some (.slice a len cap) := (hb3.cell (by show w.heap.size < wr.heap.size; omega)).trans hc
        have s3 : w.heap.size < w2.heap.size := Nat.lt_of_lt_of_le hs hb3.size
        have HB4 := Lib.hid hb4
        clear hb3 hb4 hc
        cases q with
        | true =>
          go_wp2_with fail
          go_ret2
          exact ⟨⟨kn, 0, rfl⟩, HB4.out⟩
        | false =>
          have hrk : rows[kn]? = some (rows[kn]'(by omega)) := List.getElem?_eq_getElem _
          generalize rows[kn]'(by omega) = rk at hrk
          obtain ⟨rfl, _, hbl, hrd⟩ := H3.out kn rk hrk
          obtain ⟨_, _, _, _, _, pk, _, _, _, _, rfl, _, _, _, _, _, _, n2, _⟩ := node_at hrk HT.out hrd
          have hpp : par rows kn = pk := par_is hrk
          have q2 := (HB4.out.cell (p := ⟨b, o + kn * 4 + 2, none⟩) hbl).trans n2
          have hpr := HG.out.pr kn (by omega)
          rw [hpp] at hpr HST
          have HPK := Lib.hid hpr
          clear n2 hrd hrk hpp hpr
          go_wp2_with fail
          exact ⟨⟨pk, rfl, HPK.out.1, HPK.out.2, HST.out.1, HB4.out, c2, s3⟩, by have := HST.out.2; simpa [intOf] using this⟩
end Go.Proofs.YtomnkglnbmnmpaaGreatDoor
namespace Go.Proofs.YtomnkglnbmnmpaaGreatDoor
open Go.RowKit Go.Vt Go.Proofs
theorem own_lt' {w : World} {B e s n : Nat} {v : Value} {xs : List Value} (h : w.ownsRow B e s v n xs) (k : Nat) (hk : v.ownBlock = some k) : k < w.heap.size := by
  rcases h.2 with ⟨rfl, _⟩ | ⟨g, cap, cur, rfl, hb, hh, _⟩
  · simp [Value.ownBlock] at hk
  · have : g = k := by simpa [Value.ownBlock] using hk
    subst this
    exact (Array.getElem?_eq_some_iff.1 hh).1
/-- Numbers of nodes in new memory, and an error. -/
def LinksP (B : Nat) (e : Ending) (w' : World) : Prop := ∃ (v : Value) (n : Int) (xs : List Nat), e = .returned (.tuple #[v, .int .i64 n]) ∧ w'.ownsRow B 3 1 v xs.length (natVals xs) ∧ xs.length ≤ 64 ∧ ∀ y ∈ xs, y < 64
set_option maxRecDepth 100000 in
set_option maxHeartbeats 1000000 in
/-- link.All. -/
theorem lall_ok (F : Nat → Prop) (w : World) (a : Option Addr) (x : Int) (len cap : Nat) (rows : List (List C)) (hr : Rd F w (.sl 4 len cap rows) (.slice a len cap)) (ht : HtRows tab [.str, .sl 116, .int .i64, .sl 3] rows) (hF : ∀ k, F k → k < w.heap.size) (hnn : nodesRows rows ≤ 1099511627776) :
    Calls Tryz.prog 66 #[.agg #[.slice a len cap], .int .i64 x] w fun e w' => LinksP w.heap.size e w' ∧ Below w.heap.size w w' := by
  obtain ⟨i0, hi0, hz0, hz1, hz2⟩ := info_parts zinfo3
  obtain ⟨W, hW⟩ : ∃ W, W = w.alloc (Obj.cells #[.slice a len cap] 24) := ⟨_, rfl⟩
  have hb : Below w.heap.size w W := by rw [hW]; exact (Below.refl _ _).alloc (Nat.le_refl _) _
  have s1 : W.heap.size = w.heap.size + 1 := by rw [hW, alloc_size]
  have x1 : W.heap[w.heap.size]? = some (.cells #[.slice a len cap] 24 (0, 0)) := by rw [hW]; exact heap_alloc_new w _
  have hc := list_ok F W a x len cap rows (Rd.mono (fun k hk => ⟨hk, hb.block k (hF k hk)⟩) _ _ hr) ht (fun k hk => Nat.lt_of_lt_of_le (hF k hk) hb.size) hnn
  have c0 : W.cell? ⟨w.heap.size, 0, none⟩ = some (.slice a len cap) := cell_of_row _ _ 0 _ _ _ x1
  have HC := Lib.hid hc
  have HW := Lib.hid hW
  have HB := Lib.hid hb
  have HR := Lib.hid hr
  have HF := Lib.hid hF
  have HT := Lib.hid ht
  have HX := Lib.hid (And.intro x1 s1)
  clear hc hW hb hr ht hF x1 s1
  go_enter Tryz.func66, Tryz.ntmps66
  go_wp2_with fail
  rw [← HW.out]
  go_wp2_with fail
  refine HC.out.mono ?_
  rintro e w1 ⟨⟨v, n, xs, rfl, ho, hxl, hx64, hn⟩, hb1⟩
  have HN := Lib.hid hn
  have HO := Lib.hid (And.intro ho hx64)
  have hb2 := HB.out.trans (hb1.mono HB.out.size)
  have x2 : w1.heap[w.heap.size]? = some (.cells #[.slice a len cap] 24 (0, 0)) := (hb1.block _ (by have := HX.out.2; omega)).trans HX.out.1
  have c1 : w1.cell? ⟨w.heap.size, 0, none⟩ = some (.slice a len cap) := cell_of_row _ _ 0 _ _ _ x2
  have s2 : w.heap.size + 1 ≤ w1.heap.size := by have := HX.out.2; have := hb1.size; omega
  have HB2 := Lib.hid hb2
  have HX2 := Lib.hid x2
  clear hn ho hx64 hb1 hb2 c0 x2
  by_cases hn0 : n = 0
  case neg =>
    have hn1 : (n != 0) = true := by simp [hn0]
    go_wp2_with fail
    go_ret2
    exact ⟨⟨_, n, [], rfl, ⟨by simp [natVals], .inl ⟨rfl, rfl⟩⟩, by simp, by simp⟩, HB2.out⟩
  case pos =>
    subst hn0
    obtain ⟨hG, _, hne, hxl2⟩ := HN.out (by first | trivial | rfl)
    have hpos : 0 < xs.length := List.length_pos_iff.2 hne
    obtain ⟨av, cv, rfl⟩ := own_slice HO.out.1
    obtain ⟨g, gcap, hgv, hgb⟩ : ∃ g gcap, Value.slice av xs.length cv = .slice (some ⟨g, 0, none⟩) xs.length gcap ∧ W.heap.size ≤ g := by
      rcases HO.out.1.2 with ⟨_, h⟩ | ⟨g, cap', cur, h, hb, _⟩
      · omega
      · exact ⟨g, cap', h, hb⟩
    injection hgv with e1 _ e2
    subst e1 e2
    have HGG := Lib.hid hG
    clear hG hne
    have hgl : g < w1.heap.size := by
      have := own_lt' HO.out.1 g (by simp [Value.ownBlock])
      exact this
    go_wp2_with fail
    go_loopw [8, 22] (fun x8 x22 wr => ∃ (i : Nat) (ys : List Nat), x22 = .int .i64 i ∧ i ≤ xs.length ∧ ys.length ≤ i ∧ (∀ y ∈ ys, y < 64) ∧ Below w1.heap.size w1 wr ∧ wr.ownsRow w1.heap.size 3 1 x8 ys.length (natVals ys)) (fun _ x22 _ => xs.length - (intOf x22).toNat)
    case atStart => exact ⟨0, [], rfl, by omega, by simp, by simp, Below.refl _ _, ⟨by simp [natVals], .inl ⟨rfl, rfl⟩⟩⟩
    case round =>
      obtain ⟨i, ys, rfl, hi, hyl, hys, hBr, hO⟩ := hrel
      obtain ⟨aG, cG, rfl⟩ := own_slice hO
      clear c1
      by_cases hlt : i < xs.length
      case pos =>
        have hxi : xs[i]? = some xs[i] := List.getElem?_eq_getElem hlt
        generalize xs[i] = y at hxi
        have hym := List.mem_of_getElem? hxi
        have hy1 := hxl2 y hym
        have hy2 := HO.out.2 y hym
        have z0 : w1.cell? ⟨g, i, none⟩ = some (.int .i64 y) := by
          rw [HO.out.1.cellAt i (by omega)]
          simp [natVals, hxi]
        have zr := (hBr.cell (p := ⟨g, i, none⟩) hgl).trans z0
        have hBw := HB2.out.trans (hBr.mono HB2.out.size)
        have cr : wr.cell? ⟨w.heap.size, 0, none⟩ = some (.slice a len cap) := cell_of_row _ _ 0 _ _ _ ((hBr.block _ (by omega)).trans HX2.out)
        have hl := lis_ok F wr a y len cap rows (Rd.mono (fun k hk => ⟨hk, hBw.block k (HF.out k hk)⟩) _ _ HR.out) HT.out (fun k hk => Nat.lt_of_lt_of_le (HF.out k hk) hBw.size) hnn
        have HL := Lib.hid hl
        have HK := Lib.hid (And.intro hBr (And.intro hO hys))
        clear hl hBr hO hys z0 hBw hxi hym
        go_wp2_with fail
        refine HL.out.mono ?_
        rintro e w2 ⟨⟨q, rfl⟩, hb3⟩
        have hO2 : w2.ownsRow w1.heap.size 3 1 (.slice aG ys.length cG) ys.length (natVals ys) := HK.out.2.1.kept ⟨hb3.os, hb3.tape, hb3.output, hb3.size, fun i hi _ => hb3.block i hi⟩ (row := none) (by cases (Value.slice aG ys.length cG).ownBlock <;> simp)
        have hB2 := HK.out.1.trans (hb3.mono HK.out.1.size)
        clear zr cr
        cases q with
        | false =>
          have HB4 := Lib.hid (And.intro hB2 hO2)
          clear hb3 hB2 hO2
          go_wp2_with fail
          exact ⟨⟨i + 1, ys, by go_num, by omega, by omega, HK.out.2.2, HB4.out.1, HB4.out.2⟩, by simp [intOf]; omega⟩
        | true =>
          have hsz := hB2.size
          have hpush : ∀ (X : Obj) (w5 : World), (w2.alloc X).grownBy w5 (Value.slice aG ys.length cG).ownBlock → Below w1.heap.size w1 w5 := fun X w5 hg =>
            (hB2.alloc hsz X).grown hg (by rw [alloc_size]; omega) (fun k hk => own_ge hO2 k hk)
          have HPU := Lib.hid hpush
          clear hpush hb3 hB2
          go_wp2_with (at_builtin; go_must (refine wpList_append_lies _ rfl _ _ 70 rfl w1.heap.size 3 i0 _ 1 8 Tryz.underlying70 hi0 hz0 hz1 hz2 rfl (by decide) (.slice aG ys.length cG) ys.length (natVals ys) rfl (hO2.alloc _) _ 1 1 [.int .i64 y] rfl rfl (World.news_of_block (heap_alloc_new w2 _)) (by simp [Value.oneCell']) (by decide) (by simp [maxLen]; omega) (by omega) (by rw [alloc_size]; omega) _ rfl ?_; intro g5 cp w5 ho hg hor hlt5; have hbx := HPU.out _ w5 hg))
          rw [natVals_snoc] at ho
          refine ⟨⟨i + 1, ys ++ [y], by go_num, by omega, by simp; omega, fun z hz => ?_, hbx, by simpa using ho⟩, by simp [intOf]; omega⟩
          rcases List.mem_append.1 hz with hz | hz
          · exact HK.out.2.2 z hz
          · obtain rfl := List.mem_singleton.1 hz; exact hy2
      case neg =>
        obtain rfl : i = xs.length := by omega
        have HK := Lib.hid (And.intro hBr (And.intro hO hys))
        clear hBr hO hys
        go_wp2_with fail
        go_ret2
        obtain ⟨hBr, hO, hys⟩ := HK.out
        refine ⟨⟨_, 0, ys, rfl, ⟨hO.1, ?_⟩, by omega, hys⟩, HB2.out.trans (hBr.mono HB2.out.size)⟩
        rcases hO.2 with h | ⟨g', cap', cur, h, hb, hh⟩
        · exact .inl h
        · exact .inr ⟨g', cap', cur, h, by omega, hh⟩
end Go.Proofs.YtomnkglnbmnmpaaGreatDoor
