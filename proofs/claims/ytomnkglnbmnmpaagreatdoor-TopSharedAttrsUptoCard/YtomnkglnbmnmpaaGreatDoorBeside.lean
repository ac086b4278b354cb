/- order.Place, Previous and Next: they answer two numbers and leave the memory. -/
import Derived.Test.YtomnkglnbmnmpaaGreatDoorAbove
import Derived.WalkKit
import Derived.WalkSpells
import Derived.WalkLawsBesides
import Derived.Deep.AppendLies
import Derived.Deep.QuietTactic
import Derived.BigQuiet
namespace Go.Proofs.YtomnkglnbmnmpaaGreatDoor
open Go.RowKit Go.Vt Go.Proofs
/-- A list of numbers that a node of the tree holds, or one number: readable, and a place in it. -/
def SibP (e : Ending) (w' : World) : Prop := ∃ (a1 : Option Addr) (l1 c1 : Nat) (n : Int), e = .returned (.tuple #[.slice a1 l1 c1, .int .i64 n]) ∧ -1 ≤ n ∧ n < l1 ∧ l1 ≤ 1099511627776 ∧ ∃ b o, ∀ j, j < l1 → a1 = some ⟨b, o, none⟩ ∧ ∃ z, w'.cell? ⟨b, o + j, none⟩ = some (.int .i64 z)
theorem kids_le {F : Nat → Prop} {w : World} {v : Value} {rows rc : List (List C)} {i sz s2 len cc c2 : Nat} {a b c : C} (hri : rows[i]? = some [a, b, c, .sl sz len cc rc]) (hr : Rd F w (.sl s2 len c2 rc) v) (hnn : nodesRows rows ≤ 1099511627776) : len ≤ 1099511627776 := by
  have h2 := nodesRow_at rows i _ hri
  simp only [nodesRow, nodes] at h2
  have h3 := nodesRows_len rc
  simp only [Rd] at hr
  obtain ⟨_, _, h5, _⟩ := hr
  omega
theorem ints_at {F : Nat → Prop} {w : World} {a : Option Addr} {len cap : Nat} {rows : List (List C)} (hr : Rd F w (.sl 1 len cap rows) (.slice a len cap)) (ht : HtRows tab [.int .i64] rows) (hF : ∀ k, F k → k < w.heap.size) : ∃ b o, ∀ j, j < len → a = some ⟨b, o, none⟩ ∧ b < w.heap.size ∧ ∃ z, w.cell? ⟨b, o + j, none⟩ = some (.int .i64 z) ∧ IntKind.i64.wrap z = z ∧ (ints rows len)[j]? = some z := by
  obtain ⟨a0, b, o, ha0, h2, h3⟩ := row_at hr hF
  injection ha0 with ha0
  subst ha0
  refine ⟨b, o, fun j hj => ?_⟩
  have hrj : rows[j]? = some (rows[j]'(by omega)) := List.getElem?_eq_getElem _
  generalize rows[j]'(by omega) = r at hrj
  obtain ⟨e, _, hbl, hrd⟩ := h3 j r hrj
  obtain ⟨c0, cs0, rfl, k0, h1⟩ := (ht_at _ _ _ ht hrj).cons
  obtain rfl := h1.nil
  obtain ⟨y, rfl⟩ := ht_int k0
  simp only [RdRow, Rd, exists_eq_right, Nat.mul_one, and_true] at hrd
  simp only [Ht] at k0
  exact ⟨e, hbl, y, hrd, k0.2, kidOf_at hrj hj⟩
set_option maxRecDepth 100000 in
/-- order.siblings. -/
theorem siblings_ok (F : Nat → Prop) (w : World) (a : Option Addr) (xn : Nat) (len cap : Nat) (rows : List (List C)) (hr : Rd F w (.sl 4 len cap rows) (.slice a len cap)) (ht : HtRows tab [.str, .sl 116, .int .i64, .sl 3] rows) (hF : ∀ k, F k → k < w.heap.size) (hnn : nodesRows rows ≤ 1099511627776) (hG : Good2 rows len) (hx : xn < len) :
    Calls Tryz.prog 94 #[.agg #[.slice a len cap], .int .i64 xn] w fun e w' => SibP e w' ∧ Below w.heap.size w w' := by
  obtain ⟨a0, b, o, ha0, h2, h3⟩ := row_at hr hF
  obtain rfl : a = a0 := by injection ha0 with ha0
  obtain ⟨W, hW⟩ : ∃ W, W = w.alloc (Obj.cells #[.slice a len cap] 24) := ⟨_, rfl⟩
  have hb : Below w.heap.size w W := by rw [hW]; exact (Below.refl _ _).alloc (Nat.le_refl _) _
  have s1 : W.heap.size = w.heap.size + 1 := by rw [hW, alloc_size]
  have x1 : W.heap[w.heap.size]? = some (.cells #[.slice a len cap] 24 (0, 0)) := by rw [hW]; exact heap_alloc_new w _
  have hrk : rows[xn]? = some (rows[xn]'(by omega)) := List.getElem?_eq_getElem _
  generalize rows[xn]'(by omega) = rk at hrk
  obtain ⟨rfl, _, hbl, hrd⟩ := h3 xn rk hrk
  obtain ⟨_, _, _, _, _, pp, _, _, _, _, rfl, _, _, _, _, _, _, n2, _⟩ := node_at hrk ht hrd
  have hpp : par rows xn = pp := par_is hrk
  have hkn := hG.kn xn hx
  have hlo := hkn.lo
  have hhi := hkn.hi
  rw [hpp] at hlo hhi
  clear hpp
  clear hrd hrk
  rcases Int.lt_or_le pp 0 with hp | hp
  · have HW := Lib.hid hW
    have HB := Lib.hid hb
    clear hW hb hr ht hF h3 hG hkn x1
    go_enter Tryz.func94, Tryz.ntmps94
    go_wp2_with fail
    rw [← HW.out]
    go_ret2
    exact ⟨⟨_, 1, 1, 0, rfl, by omega, by omega, by omega, _, 0, fun j hj => ⟨rfl, xn, by
      obtain rfl : j = 0 := by omega
      have h := cell_of_row _ _ 0 _ _ _ (heap_alloc_new W (Obj.cells #[Value.int .i64 xn] 3)); rw [s1] at h; exact h⟩⟩, HB.out.alloc HB.out.size _⟩
  · obtain ⟨pn, rfl⟩ := Int.eq_ofNat_of_zero_le hp
    have hrp : rows[pn]? = some (rows[pn]'(by omega)) := List.getElem?_eq_getElem _
    generalize rows[pn]'(by omega) = rp at hrp
    obtain ⟨_, _, _, hrdp⟩ := h3 pn rp hrp
    obtain ⟨_, _, _, _, _, _, acp, lcp, ccp, rcp, rfl, _, _, hcp, htp, _, _, _, np3⟩ := node_at hrp ht hrdp
    have hlcp := kids_le hrp hcp hnn
    have hcp' : Rd F W (.sl 1 lcp ccp rcp) (.slice acp lcp ccp) := Rd.mono (fun k hk => ⟨hk, hb.block k (hF k hk)⟩) _ _ hcp
    have hF' : ∀ k, F k → k < W.heap.size := fun k hk => Nat.lt_of_lt_of_le (hF k hk) hb.size
    have hix := fun m => index2_ok tab F (W.drewN m) (.slice acp lcp ccp) xn lcp ccp rcp (Rd.mono (w := W) (w' := W.drewN m) (F' := F) (fun k hk => ⟨hk, rfl⟩) _ _ hcp') htp hF' hlcp
    have hat := ints_at hcp' htp hF'
    have HW := Lib.hid hW
    have HB := Lib.hid hb
    have HI := Lib.hid hix
    have HA := Lib.hid hat
    clear hW hb hr ht hF h3 hG hkn x1 hrdp hcp htp hcp' hF' hix hat hrp
    go_enter Tryz.func94, Tryz.ntmps94
    go_wp2_with fail
    go_quiet (fail)
    go_wp2_with fail
    rw [← HW.out]
    refine (HI.out _).mono ?_
    rintro e w1 ⟨⟨n, rfl, h1, h2, _, _⟩, hw⟩
    rw [hw]
    clear hw
    go_wp2_with fail
    go_ret2
    obtain ⟨b1, o1, h5⟩ := HA.out
    exact ⟨⟨_, _, _, n, rfl, h1, h2, hlcp, b1, o1, fun j hj => by obtain ⟨e1, _, z, e2, _, _⟩ := h5 j hj; exact ⟨e1, z, e2⟩⟩, below_drewN HB.out _⟩
def IntErrP (e : Ending) : Prop := ∃ a n : Int, e = .returned (.tuple #[.int .i64 a, .int .i64 n])
set_option maxRecDepth 100000 in
/-- order.Place. -/
theorem place_ok (F : Nat → Prop) (w : World) (a : Option Addr) (x : Int) (len cap : Nat) (rows : List (List C)) (hr : Rd F w (.sl 4 len cap rows) (.slice a len cap)) (ht : HtRows tab [.str, .sl 116, .int .i64, .sl 3] rows) (hF : ∀ k, F k → k < w.heap.size) (hnn : nodesRows rows ≤ 1099511627776) :
    Calls Tryz.prog 48 #[.agg #[.slice a len cap], .int .i64 x] w fun e w' => IntErrP e ∧ Below w.heap.size w w' := by
  obtain ⟨W, hW⟩ : ∃ W, W = w.alloc (Obj.cells #[.slice a len cap] 24) := ⟨_, rfl⟩
  have hb : Below w.heap.size w W := by rw [hW]; exact (Below.refl _ _).alloc (Nat.le_refl _) _
  have s1 : W.heap.size = w.heap.size + 1 := by rw [hW, alloc_size]
  have x1 : W.heap[w.heap.size]? = some (.cells #[.slice a len cap] 24 (0, 0)) := by rw [hW]; exact heap_alloc_new w _
  have hc := ocheck_ok F W a x len cap rows (Rd.mono (fun k hk => ⟨hk, hb.block k (hF k hk)⟩) _ _ hr) ht (fun k hk => Nat.lt_of_lt_of_le (hF k hk) hb.size) hnn
  have c0 : W.cell? ⟨w.heap.size, 0, none⟩ = some (.slice a len cap) := cell_of_row _ _ 0 _ _ _ x1
  have HC := Lib.hid hc
  have HW := Lib.hid hW
  have HB := Lib.hid hb
  have HR := Lib.hid hr
  have HF := Lib.hid hF
  have HT := Lib.hid ht
  have HX := Lib.hid (And.intro x1 s1)
  clear hc hW hb hr ht hF x1 s1
  go_enter Tryz.func48, Tryz.ntmps48
  go_wp2_with fail
  rw [← HW.out]
  go_wp2_with fail
  refine HC.out.mono ?_
  rintro e w1 ⟨⟨n, rfl, hn⟩, hb1⟩
  have HN := Lib.hid hn
  have hb2 := HB.out.trans (hb1.mono HB.out.size)
  have x2 : w1.heap[w.heap.size]? = some (.cells #[.slice a len cap] 24 (0, 0)) := (hb1.block _ (by have := HX.out.2; omega)).trans HX.out.1
  have c1 : w1.cell? ⟨w.heap.size, 0, none⟩ = some (.slice a len cap) := cell_of_row _ _ 0 _ _ _ x2
  have s2 : w.heap.size + 1 ≤ w1.heap.size := by have := HX.out.2; have := hb1.size; omega
  have HB2 := Lib.hid hb2
  have HX2 := Lib.hid x2
  clear hn hb1 hb2 c0 x2
  by_cases hn0 : n = 0
  case neg =>
    have hn1 : (n != 0) = true := by simp [hn0]
    go_wp2_with fail
    go_ret2
    exact ⟨⟨_, n, rfl⟩, HB2.out⟩
  case pos =>
    subst hn0
    obtain ⟨hG, hx1, hx2⟩ := HN.out (by first | trivial | rfl)
    obtain ⟨xn, rfl⟩ := Int.eq_ofNat_of_zero_le hx1
    have hs := siblings_ok F w1 a xn len cap rows (Rd.mono (fun k hk => ⟨hk, HB2.out.block k (HF.out k hk)⟩) _ _ HR.out) HT.out (fun k hk => Nat.lt_of_lt_of_le (HF.out k hk) HB2.out.size) hnn hG (by omega)
    have HS := Lib.hid hs
    clear hs hG
    go_wp2_with fail
    refine HS.out.mono ?_
    rintro e w2 ⟨⟨a1, l1, c1, n, rfl, _⟩, hb3⟩
    have hb4 := HB2.out.trans (hb3.mono HB2.out.size)
    clear hb3
    go_wp2_with fail
    go_ret2
    exact ⟨⟨_, 0, rfl⟩, hb4⟩
set_option maxRecDepth 100000 in
/-- order.beside. -/
theorem beside_ok (F : Nat → Prop) (w : World) (a : Option Addr) (x by_ : Int) (len cap : Nat) (rows : List (List C)) (hr : Rd F w (.sl 4 len cap rows) (.slice a len cap)) (ht : HtRows tab [.str, .sl 116, .int .i64, .sl 3] rows) (hF : ∀ k, F k → k < w.heap.size) (hnn : nodesRows rows ≤ 1099511627776) (hby : by_ = 1 ∨ by_ = -1) :
    Calls Tryz.prog 95 #[.agg #[.slice a len cap], .int .i64 x, .int .i64 by_] w fun e w' => IntErrP e ∧ Below w.heap.size w w' := by
  obtain ⟨W, hW⟩ : ∃ W, W = w.alloc (Obj.cells #[.slice a len cap] 24) := ⟨_, rfl⟩
  have hb : Below w.heap.size w W := by rw [hW]; exact (Below.refl _ _).alloc (Nat.le_refl _) _
  have s1 : W.heap.size = w.heap.size + 1 := by rw [hW, alloc_size]
  have x1 : W.heap[w.heap.size]? = some (.cells #[.slice a len cap] 24 (0, 0)) := by rw [hW]; exact heap_alloc_new w _
  have hc := ocheck_ok F W a x len cap rows (Rd.mono (fun k hk => ⟨hk, hb.block k (hF k hk)⟩) _ _ hr) ht (fun k hk => Nat.lt_of_lt_of_le (hF k hk) hb.size) hnn
  have c0 : W.cell? ⟨w.heap.size, 0, none⟩ = some (.slice a len cap) := cell_of_row _ _ 0 _ _ _ x1
  have HC := Lib.hid hc
  have HW := Lib.hid hW
  have HB := Lib.hid hb
  have HR := Lib.hid hr
  have HF := Lib.hid hF
  have HT := Lib.hid ht
  have HX := Lib.hid (And.intro x1 s1)
  clear hc hW hb hr ht hF x1 s1
  go_enter Tryz.func95, Tryz.ntmps95
  go_wp2_with fail
  rw [← HW.out]
  go_wp2_with fail
  refine HC.out.mono ?_
  rintro e w1 ⟨⟨n, rfl, hn⟩, hb1⟩
  have HN := Lib.hid hn
  have hb2 := HB.out.trans (hb1.mono HB.out.size)
  have x2 : w1.heap[w.heap.size]? = some (.cells #[.slice a len cap] 24 (0, 0)) := (hb1.block _ (by have := HX.out.2; omega)).trans HX.out.1
  have c1 : w1.cell? ⟨w.heap.size, 0, none⟩ = some (.slice a len cap) := cell_of_row _ _ 0 _ _ _ x2
  have s2 : w.heap.size + 1 ≤ w1.heap.size := by have := HX.out.2; have := hb1.size; omega
  have HB2 := Lib.hid hb2
  have HX2 := Lib.hid x2
  clear hn hb1 hb2 c0 x2
  by_cases hn0 : n = 0
  case neg =>
    have hn1 : (n != 0) = true := by simp [hn0]
    go_wp2_with fail
    go_ret2
    exact ⟨⟨_, n, rfl⟩, HB2.out⟩
  case pos =>
    subst hn0
    obtain ⟨hG, hx1, hx2⟩ := HN.out (by first | trivial | rfl)
    obtain ⟨xn, rfl⟩ := Int.eq_ofNat_of_zero_le hx1
    have hs := siblings_ok F w1 a xn len cap rows (Rd.mono (fun k hk => ⟨hk, HB2.out.block k (HF.out k hk)⟩) _ _ HR.out) HT.out (fun k hk => Nat.lt_of_lt_of_le (HF.out k hk) HB2.out.size) hnn hG (by omega)
    have HS := Lib.hid hs
    clear hs hG
    go_wp2_with fail
    refine HS.out.mono ?_
    rintro e w2 ⟨⟨a1, l1, c1, n, rfl, h1, h2, h3, b1, o1, h4⟩, hb3⟩
    have hb4 := HB2.out.trans (hb3.mono HB2.out.size)
    have HB4 := Lib.hid hb4
    have H4 := Lib.hid h4
    clear hb3 hb4 h4
    by_cases hm : n + by_ < 0
    · obtain rfl : by_ = -1 := by omega
      have hm2 : n + -1 < 0 := hm
      go_wp2_with fail
      go_ret2
      exact ⟨⟨_, 0, rfl⟩, HB4.out⟩
    · have hm2 : decide (n + by_ < 0) = false := by simp; omega
      by_cases hM : (l1 : Int) ≤ n + by_
      · rcases hby with rfl | rfl
        · go_wp2_with fail
          go_ret2
          exact ⟨⟨_, 0, rfl⟩, HB4.out⟩
        · omega
      · obtain ⟨q, hq⟩ : ∃ q : Nat, n + by_ = q := ⟨(n + by_).toNat, by omega⟩
        obtain ⟨rfl, z, hz⟩ := H4.out q (by omega)
        have hM2 : decide ((l1 : Int) ≤ n + by_) = false := by simp; omega
        rcases hby with rfl | rfl
        · obtain rfl : n = (q : Int) - 1 := by omega
          go_wp2_with fail
          go_ret2
          exact ⟨⟨_, 0, rfl⟩, HB4.out⟩
        · obtain rfl : n = (q : Int) + 1 := by omega
          go_wp2_with fail
          go_ret2
          exact ⟨⟨_, 0, rfl⟩, HB4.out⟩
set_option maxRecDepth 100000 in
/-- order.Previous. -/
theorem previous_ok (F : Nat → Prop) (w : World) (a : Option Addr) (x : Int) (len cap : Nat) (rows : List (List C)) (hr : Rd F w (.sl 4 len cap rows) (.slice a len cap)) (ht : HtRows tab [.str, .sl 116, .int .i64, .sl 3] rows) (hF : ∀ k, F k → k < w.heap.size) (hnn : nodesRows rows ≤ 1099511627776) :
    Calls Tryz.prog 50 #[.agg #[.slice a len cap], .int .i64 x] w fun e w' => IntErrP e ∧ Below w.heap.size w w' := by
  obtain ⟨W, hW⟩ : ∃ W, W = w.alloc (Obj.cells #[.slice a len cap] 24) := ⟨_, rfl⟩
  have hb : Below w.heap.size w W := by rw [hW]; exact (Below.refl _ _).alloc (Nat.le_refl _) _
  have s1 : W.heap.size = w.heap.size + 1 := by rw [hW, alloc_size]
  have x1 : W.heap[w.heap.size]? = some (.cells #[.slice a len cap] 24 (0, 0)) := by rw [hW]; exact heap_alloc_new w _
  have hc := beside_ok F W a x (-1) len cap rows (Rd.mono (fun k hk => ⟨hk, hb.block k (hF k hk)⟩) _ _ hr) ht (fun k hk => Nat.lt_of_lt_of_le (hF k hk) hb.size) hnn (by omega)
  have c0 : W.cell? ⟨w.heap.size, 0, none⟩ = some (.slice a len cap) := cell_of_row _ _ 0 _ _ _ x1
  have HC := Lib.hid hc
  have HW := Lib.hid hW
  have HB := Lib.hid hb
  clear hc hW hb hr ht hF x1 s1
  go_enter Tryz.func50, Tryz.ntmps50
  go_wp2_with fail
  rw [← HW.out]
  go_wp2_with fail
  refine HC.out.mono ?_
  rintro e w1 ⟨⟨y, n, rfl⟩, hb1⟩
  have hb2 := HB.out.trans (hb1.mono HB.out.size)
  clear hb1 c0
  go_wp2_with fail
  go_ret2
  exact ⟨⟨y, n, rfl⟩, hb2⟩
set_option maxRecDepth 100000 in
/-- order.Next. -/
theorem next_ok (F : Nat → Prop) (w : World) (a : Option Addr) (x : Int) (len cap : Nat) (rows : List (List C)) (hr : Rd F w (.sl 4 len cap rows) (.slice a len cap)) (ht : HtRows tab [.str, .sl 116, .int .i64, .sl 3] rows) (hF : ∀ k, F k → k < w.heap.size) (hnn : nodesRows rows ≤ 1099511627776) :
    Calls Tryz.prog 52 #[.agg #[.slice a len cap], .int .i64 x] w fun e w' => IntErrP e ∧ Below w.heap.size w w' := by
  obtain ⟨W, hW⟩ : ∃ W, W = w.alloc (Obj.cells #[.slice a len cap] 24) := ⟨_, rfl⟩
  have hb : Below w.heap.size w W := by rw [hW]; exact (Below.refl _ _).alloc (Nat.le_refl _) _
  have s1 : W.heap.size = w.heap.size + 1 := by rw [hW, alloc_size]
  have x1 : W.heap[w.heap.size]? = some (.cells #[.slice a len cap] 24 (0, 0)) := by rw [hW]; exact heap_alloc_new w _
  have hc := beside_ok F W a x (1) len cap rows (Rd.mono (fun k hk => ⟨hk, hb.block k (hF k hk)⟩) _ _ hr) ht (fun k hk => Nat.lt_of_lt_of_le (hF k hk) hb.size) hnn (by omega)
  have c0 : W.cell? ⟨w.heap.size, 0, none⟩ = some (.slice a len cap) := cell_of_row _ _ 0 _ _ _ x1
  have HC := Lib.hid hc
  have HW := Lib.hid hW
  have HB := Lib.hid hb
  clear hc hW hb hr ht hF x1 s1
  go_enter Tryz.func52, Tryz.ntmps52
  go_wp2_with fail
  rw [← HW.out]
  go_wp2_with fail
  refine HC.out.mono ?_
  rintro e w1 ⟨⟨y, n, rfl⟩, hb1⟩
  have hb2 := HB.out.trans (hb1.mono HB.out.size)
  clear hb1 c0
  go_wp2_with fail
  go_ret2
  exact ⟨⟨y, n, rfl⟩, hb2⟩
end Go.Proofs.YtomnkglnbmnmpaaGreatDoor
