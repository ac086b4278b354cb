/- order.check and order.Above: numbers in new memory. -/
import Derived.Test.YtgkamgijnhbcbaaGreatDoorCheck2
import Derived.Test.YtgkamgijnhbcbaaGreatDoorClone
import Derived.WalkKit
import Derived.WalkSpells
import Derived.WalkLawsBesides
import Derived.Deep.AppendLies
namespace Go.Proofs.YtgkamgijnhbcbaaGreatDoor
open Go.RowKit Go.Vt Go.Proofs
theorem zinfo3 : (Tryz.prog.info? 3).map (fun i => (i.zero, i.size, i.bytes)) = some (some (.int .i64 0), 1, 8) := by kernel_rfl
def AllInts (xs : List Value) : Prop := ∀ j, j < xs.length → ∃ z, xs[j]? = some (.int .i64 z) ∧ IntKind.i64.wrap z = z
theorem AllInts.nil : AllInts [] := fun j hj => by simp at hj
theorem AllInts.snoc {xs : List Value} {z : Int} (h : AllInts xs) (hz : IntKind.i64.wrap z = z) : AllInts (xs ++ [.int .i64 z]) := fun j hj => by
  by_cases e : j < xs.length
  · rw [List.getElem?_append_left e]; exact h j e
  · have e2 : j = xs.length := by simp at hj; omega
    subst e2
    exact ⟨z, by simp, hz⟩
theorem own_slice {w : World} {B e s n : Nat} {v : Value} {xs : List Value} (h : w.ownsRow B e s v n xs) : ∃ a c, v = .slice a n c := by
  rcases h.2 with ⟨rfl, rfl⟩ | ⟨g, cap, cur, rfl, _⟩
  · exact ⟨none, 0, rfl⟩
  · exact ⟨_, cap, rfl⟩
theorem own_ge {w : World} {B e s n : Nat} {v : Value} {xs : List Value} (h : w.ownsRow B e s v n xs) (k : Nat) (hk : v.ownBlock = some k) : B ≤ k := by
  rcases h.2 with ⟨rfl, _⟩ | ⟨g, cap, cur, rfl, hb, _⟩
  · simp [Value.ownBlock] at hk
  · have : g = k := by simpa [Value.ownBlock] using hk
    omega
theorem chainN_le (rows : List (List C)) : ∀ (m : Nat) (k : Int), chainN rows m k ≤ m
  | 0, _ => by simp [chainN]
  | m + 1, k => by simp only [chainN]; split; omega; have := chainN_le rows m (par rows k.toNat); omega
theorem small_wrap {z : Int} (h : -1 ≤ z) (h2 : z < 1099511627776) : IntKind.i64.wrap z = z := by simp only [IntKind.wrap, IntKind.bits, IntKind.signed]; simp; omega
set_option maxRecDepth 100000 in
/-- order.check. -/
theorem ocheck_ok (F : Nat → Prop) (w : World) (a : Option Addr) (x : Int) (len cap : Nat) (rows : List (List C)) (hr : Rd F w (.sl 4 len cap rows) (.slice a len cap)) (ht : HtRows tab [.str, .sl 201, .int .i64, .sl 3] rows) (hF : ∀ k, F k → k < w.heap.size) (hnn : nodesRows rows ≤ 1099511627776) :
    Calls Tryz.prog 107 #[.agg #[.slice a len cap], .int .i64 x] w fun e w' => (∃ n : Int, e = .returned (.int .i64 n) ∧ (n = 0 → Good2 rows len ∧ (0 ≤ x ∧ x < len))) ∧ Below w.heap.size w w' := by
  obtain ⟨W, hW⟩ : ∃ W, W = w.alloc (Obj.cells #[.slice a len cap] 24) := ⟨_, rfl⟩
  have hb : Below w.heap.size w W := by rw [hW]; exact (Below.refl _ _).alloc (Nat.le_refl _) _
  have hc := depth2_ok F W (.slice a len cap) x len cap rows (Rd.mono (fun k hk => ⟨hk, hb.block k (hF k hk)⟩) _ _ hr) ht (fun k hk => Nat.lt_of_lt_of_le (hF k hk) hb.size) hnn
  have HC := Lib.hid hc
  have HW := Lib.hid hW
  have HB := Lib.hid hb
  clear hc hW hb hr ht hF
  go_enter Tryz.func107, Tryz.ntmps107
  go_wp2_with fail
  rw [← HW.out]
  refine HC.out.mono ?_
  rintro e w1 ⟨⟨d, n, rfl, hn⟩, hb1⟩
  have HN := Lib.hid hn
  have hb2 := HB.out.trans (hb1.mono HB.out.size)
  have HB2 := Lib.hid hb2
  clear hn hb1 hb2
  go_wp2_with fail
  go_ret
  exact ⟨⟨n, rfl, HN.out⟩, HB2.out⟩
/-- Numbers in new memory, and an error; at most m numbers. -/
def NumsP (B m : Nat) (e : Ending) (w' : World) : Prop := ∃ v n l, e = .returned (.tuple #[v, .int .i64 n]) ∧ KidV (fun k => B ≤ k) w' 3 v l ∧ l ≤ m
set_option maxRecDepth 100000 in
/-- order.Above. -/
theorem above_ok (F : Nat → Prop) (w : World) (a : Option Addr) (x : Int) (len cap : Nat) (rows : List (List C)) (hr : Rd F w (.sl 4 len cap rows) (.slice a len cap)) (ht : HtRows tab [.str, .sl 201, .int .i64, .sl 3] rows) (hF : ∀ k, F k → k < w.heap.size) (hnn : nodesRows rows ≤ 1099511627776) :
    Calls Tryz.prog 102 #[.agg #[.slice a len cap], .int .i64 x] w fun e w' => NumsP w.heap.size 100 e w' ∧ Below w.heap.size w w' := by
  obtain ⟨i0, hi0, hz0, hz1, hz2⟩ := info_parts zinfo3
  obtain ⟨a0, b, o, ha0, h2, h3⟩ := row_at hr hF
  obtain rfl : a = a0 := by injection ha0 with ha0
  obtain ⟨W, hW⟩ : ∃ W, W = w.alloc (Obj.cells #[.slice a len cap] 24) := ⟨_, rfl⟩
  have hb : Below w.heap.size w W := by rw [hW]; exact (Below.refl _ _).alloc (Nat.le_refl _) _
  have s1 : W.heap.size = w.heap.size + 1 := by rw [hW, alloc_size]
  have x1 : W.heap[w.heap.size]? = some (.cells #[.slice a len cap] 24 (0, 0)) := by rw [hW]; exact heap_alloc_new w _
  have hc := ocheck_ok F W a x len cap rows (Rd.mono (fun k hk => ⟨hk, hb.block k (hF k hk)⟩) _ _ hr) ht (fun k hk => Nat.lt_of_lt_of_le (hF k hk) hb.size) hnn
  have c0 : W.cell? ⟨w.heap.size, 0, none⟩ = some (.slice a len cap) := cell_of_row _ _ 0 _ _ _ x1
  have HC := Lib.hid hc
  have HW := Lib.hid hW
  have HB := Lib.hid hb
  have H3 := Lib.hid h3
  have HT := Lib.hid ht
  have HX := Lib.hid (And.intro x1 s1)
  clear hc hW hb hr ht hF h3 x1 s1 ha0
  go_enter Tryz.func102, Tryz.ntmps102
  go_wp2_with fail
  rw [← HW.out]
  go_wp2_with fail
  refine HC.out.mono ?_
  rintro e w1 ⟨⟨n, rfl, hn⟩, hb1⟩
  have HN := Lib.hid hn
  have hb2 := HB.out.trans (hb1.mono HB.out.size)
  have x2 : w1.heap[w.heap.size]? = some (.cells #[.slice a len cap] 24 (0, 0)) := (hb1.block _ (by have := HX.out.2; omega)).trans HX.out.1
  have c1 : w1.cell? ⟨w.heap.size, 0, none⟩ = some (.slice a len cap) := cell_of_row _ _ 0 _ _ _ x2
  have s2 : w.heap.size + 1 ≤ w1.heap.size := by have := HX.out.2; have := hb1.size; omega
  have HB2 := Lib.hid hb2
  have HX2 := Lib.hid x2
  clear hn hb1 hb2 c0 x2
  by_cases hn0 : n = 0
  case neg =>
    have hn1 : (n != 0) = true := by simp [hn0]
    go_wp2_with fail
    go_ret2
    exact ⟨⟨_, n, 0, rfl, .inl ⟨rfl, rfl⟩, by omega⟩, HB2.out⟩
  case pos =>
    subst hn0
    obtain ⟨hG, hx1, hx2⟩ := HN.out (by first | trivial | rfl)
    obtain ⟨xn, rfl⟩ := Int.eq_ofNat_of_zero_le hx1
    have hrk : rows[xn]? = some (rows[xn]'(by omega)) := List.getElem?_eq_getElem _
    generalize rows[xn]'(by omega) = rk at hrk
    obtain ⟨rfl, _, hbl, hrd⟩ := H3.out xn rk hrk
    obtain ⟨_, _, _, _, _, pp, _, _, _, _, rfl, _, _, _, _, _, _, n2, _⟩ := node_at hrk HT.out hrd
    have hpp : par rows xn = pp := par_is hrk
    have q2 := (HB2.out.cell (p := ⟨b, o + xn * 4 + 2, none⟩) hbl).trans n2
    have hpr := hG.pr xn (by omega)
    have hst := (Ends.step (m := len) (hG.en xn (by omega))).1
    have hl2 := hG.l2
    rw [hpp] at hpr hst
    have HST := Lib.hid hst
    have HPR := Lib.hid hpr
    have HG := Lib.hid hG
    clear n2 hrd hrk hpp hpr hst hG
    go_wp2_with fail
    go_loopw [7, 8] (fun x7 x8 wr => ∃ (n : Nat) (k : Int) (xs : List Value), x8 = .int .i64 k ∧ -1 ≤ k ∧ k < len ∧ Ends rows len (len + 1) k ∧ n + chainN rows (len + 1) k ≤ len + 1 ∧ Below w.heap.size w wr ∧ wr.heap[w.heap.size]? = some (.cells #[.slice (some ⟨b, o, none⟩) len cap] 24 (0, 0)) ∧ wr.ownsRow (w.heap.size + 1) 3 1 x7 n xs ∧ AllInts xs) (fun x7 x8 _ => chainN rows (len + 1) (intOf x8))
    case atStart => exact ⟨0, pp, [], rfl, HPR.out.1, HPR.out.2, HST.out, by have := chainN_le rows (len + 1) pp; omega, HB2.out, HX2.out, ⟨by simp, .inl ⟨rfl, rfl⟩⟩, AllInts.nil⟩
    case round =>
      obtain ⟨n, k, xs, rfl, hk1, hk2, hen, hnk, hB, hX, hO, hxs⟩ := hrel
      obtain ⟨aG, cG, rfl⟩ := own_slice hO
      clear q2 c1
      have cw : wr.cell? ⟨w.heap.size, 0, none⟩ = some (.slice (some ⟨b, o, none⟩) len cap) := cell_of_row _ _ 0 _ _ _ hX
      have HK := Lib.hid (And.intro hB (And.intro hX (And.intro hO hxs)))
      have hlw : w.heap.size + 1 ≤ wr.heap.size := (Array.getElem?_eq_some_iff.1 hX).1
      rcases Int.lt_or_le k 0 with hk | hk
      · clear hB hX hO hxs hen
        go_wp2_with fail
        go_ret2
        obtain ⟨hB, hX, hO, hxs⟩ := HK.out
        refine ⟨⟨_, 0, n, rfl, ?_, by omega⟩, hB⟩
        rcases IntsAt.of_own hO (fun j hj => hxs j (by have := hO.1; omega)) with h | ⟨g, c, h1, h2, h3⟩
        · exact .inl h
        · exact .inr ⟨g, c, h1, by show w.heap.size ≤ g; omega, h3⟩
      · obtain ⟨kn, rfl⟩ := Int.eq_ofNat_of_zero_le hk
        have HEN := Lib.hid (Ends.step (m := len) hen)
        have hkw : IntKind.i64.wrap (kn : Int) = kn := small_wrap (by omega) (by omega)
        have hpush : ∀ (X : Obj) (w5 : World) (g cp : Nat), w5.ownsRow (w.heap.size + 1) 3 1 (.slice (some ⟨g, 0, none⟩) (n + 1) cp) (n + 1) (xs ++ [.int .i64 kn]) → (wr.alloc X).grownBy w5 (Value.slice aG n cG).ownBlock →
            Below w.heap.size w w5 ∧ w5.heap[w.heap.size]? = some (.cells #[.slice (some ⟨b, o, none⟩) len cap] 24 (0, 0)) := fun X w5 g cp ho hg =>
          ⟨(hB.alloc (by omega) X).grown hg (by rw [alloc_size]; omega) (fun k hk => by have := own_ge hO k hk; omega),
           (hg.block _ (by rw [alloc_size]; omega) (fun e => by have := own_ge hO _ e.symm; omega)).trans ((Below.heap_alloc _ _ _ (by omega)).trans hX)⟩
        have hrk : rows[kn]? = some (rows[kn]'(by omega)) := List.getElem?_eq_getElem _
        generalize rows[kn]'(by omega) = rk at hrk
        obtain ⟨_, _, _, hrd⟩ := H3.out kn rk hrk
        obtain ⟨_, _, _, _, _, pk, _, _, _, _, rfl, _, _, _, _, _, _, n2, _⟩ := node_at hrk HT.out hrd
        have hpp : par rows kn = pk := par_is hrk
        have hpr := HG.out.pr kn (by omega)
        rw [hpp] at hpr HEN
        have HPK := Lib.hid hpr
        have HPU := Lib.hid hpush
        have HN2 := Lib.hid n2
        have HHX := Lib.hid (And.intro hxs hkw)
        clear n2 hrd hrk hpp hpr hpush hB hX hxs hen
        go_wp2_with (at_builtin; go_must (refine wpList_append_lies _ rfl _ _ 34 rfl (w.heap.size + 1) 3 i0 _ 1 8 Tryz.underlying34 hi0 hz0 hz1 hz2 rfl (by decide) (.slice aG n cG) n xs rfl (hO.alloc _) _ 1 1 [.int .i64 kn] rfl rfl (World.news_of_block (heap_alloc_new wr _)) (by simp [Value.oneCell']) (by decide) (by simp [maxLen]; omega) (by omega) (by rw [alloc_size]; omega) _ rfl ?_; intro g cp w5 ho hg hor hlt5; have hbx := HPU.out _ w5 g cp ho hg; have c5 : w5.cell? ⟨w.heap.size, 0, none⟩ = some (.slice (some ⟨b, o, none⟩) len cap) := (cell_of_row _ _ 0 _ _ _ hbx.2); have q5 := (hbx.1.cell (p := ⟨b, o + kn * 4 + 2, none⟩) hbl).trans HN2.out))
        go_roundw
        case rel => exact ⟨n + 1, pk, _, rfl, HPK.out.1, HPK.out.2, HEN.out.1, by have := HEN.out.2; omega, hbx.1, hbx.2, ho, HHX.out.1.snoc HHX.out.2⟩
        case measure => have := HEN.out.2; simpa [intOf] using this
end Go.Proofs.YtgkamgijnhbcbaaGreatDoor
namespace Go.Proofs.YtgkamgijnhbcbaaGreatDoor
open Go.RowKit Go.Vt Go.Proofs
theorem kids_le {F : Nat → Prop} {w : World} {v : Value} {rows rc : List (List C)} {i sz s2 len cc c2 : Nat} {a b c : C} (hri : rows[i]? = some [a, b, c, .sl sz len cc rc]) (hr : Rd F w (.sl s2 len c2 rc) v) (hnn : nodesRows rows ≤ 1099511627776) : len ≤ 1099511627776 := by
  have h2 := nodesRow_at rows i _ hri
  simp only [nodesRow, nodes] at h2
  have h3 := nodesRows_len rc
  simp only [Rd] at hr
  obtain ⟨_, _, h5, _⟩ := hr
  omega
theorem ints_at {F : Nat → Prop} {w : World} {a : Option Addr} {len cap : Nat} {rows : List (List C)} (hr : Rd F w (.sl 1 len cap rows) (.slice a len cap)) (ht : HtRows tab [.int .i64] rows) (hF : ∀ k, F k → k < w.heap.size) : ∃ b o, ∀ j, j < len → a = some ⟨b, o, none⟩ ∧ b < w.heap.size ∧ ∃ z, w.cell? ⟨b, o + j, none⟩ = some (.int .i64 z) ∧ IntKind.i64.wrap z = z ∧ (ints rows len)[j]? = some z := by
  obtain ⟨a0, b, o, ha0, h2, h3⟩ := row_at hr hF
  injection ha0 with ha0
  subst ha0
  refine ⟨b, o, fun j hj => ?_⟩
  have hrj : rows[j]? = some (rows[j]'(by omega)) := List.getElem?_eq_getElem _
  generalize rows[j]'(by omega) = r at hrj
  obtain ⟨e, _, hbl, hrd⟩ := h3 j r hrj
  obtain ⟨c0, cs0, rfl, k0, h1⟩ := (ht_at _ _ _ ht hrj).cons
  obtain rfl := h1.nil
  obtain ⟨y, rfl⟩ := ht_int k0
  simp only [RdRow, Rd, exists_eq_right, Nat.mul_one, and_true] at hrd
  simp only [Ht] at k0
  exact ⟨e, hbl, y, hrd, k0.2, kidOf_at hrj hj⟩
end Go.Proofs.YtgkamgijnhbcbaaGreatDoor
