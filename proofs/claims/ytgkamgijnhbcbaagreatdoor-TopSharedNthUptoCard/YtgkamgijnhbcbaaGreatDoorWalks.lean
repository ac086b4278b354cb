/- tree.Top, tree.Depth, tree.Below: they answer two numbers and leave the memory. -/
import Derived.Test.YtgkamgijnhbcbaaGreatDoorCheck
import Derived.WalkKit
import Derived.WalkSpells
import Derived.WalkLawsBesides
import Derived.Deep.QuietTactic
import Derived.BigQuiet
namespace Go.Proofs.YtgkamgijnhbcbaaGreatDoor
open Go.RowKit Go.Vt Go.Proofs
def AskedP (rows : List (List C)) (len : Nat) (xs : List Int) (e : Ending) : Prop := ∃ n, e = .returned (.int .i64 n) ∧ (n = 0 → Good rows len ∧ ∀ x ∈ xs, 0 ≤ x ∧ x < len)
set_option maxRecDepth 100000 in
theorem asked_ok (F : Nat → Prop) (w : World) (v lv : Value) (len cap : Nat) (rows : List (List C)) (xs : List Int) (hr : Rd F w (.sl 4 len cap rows) v) (ht : HtRows tab [.str, .sl 201, .int .i64, .sl 3] rows) (hF : ∀ k, F k → k < w.heap.size) (hnn : nodesRows rows ≤ 1099511627776) (hl : ReadsAt w lv (xs.map (Value.int .i64))) (hx : xs.length ≤ 1000) :
    Calls Tryz.prog 81 #[.agg #[v], lv] w fun e w' => AskedP rows len xs e ∧ Below w.heap.size w w' := by
  obtain ⟨a, b, o, rfl, h2, h3⟩ := row_at hr hF
  obtain ⟨la, lc, lg, rfl, hl1, hl2⟩ := hl
  simp only [List.length_map] at *
  obtain ⟨W, hW⟩ : ∃ W, W = w.alloc (Obj.cells #[Value.slice a len cap] 24) := ⟨_, rfl⟩
  have hb1 : Below w.heap.size w W := by rw [hW]; exact (Below.refl _ _).alloc (Nat.le_refl _) _
  have s1 : W.heap.size = w.heap.size + 1 := by rw [hW, alloc_size]
  have z1 : W.cell? ⟨w.heap.size, 0, none⟩ = some (Value.slice a len cap) := by rw [hW]; exact cell_of_row _ _ 0 _ _ _ (heap_alloc_new w _)
  have hc := check_ok F W (.slice a len cap) len cap rows (Rd.mono (fun k hk => ⟨hk, hb1.block k (hF k hk)⟩) _ _ hr) ht (fun k hk => Nat.lt_of_lt_of_le (hF k hk) hb1.size) hnn
  have hlen : len ≤ 1099511627776 := by have := nodesRows_len rows; omega
  have HC := Lib.hid hc
  have HW := Lib.hid hW
  have H1 := Lib.hid hl1
  have H2 := Lib.hid hl2
  have HB1 := Lib.hid hb1
  clear hc hW hl1 hl2 hb1 h3 hr ht hF
  go_enter Tryz.func81, Tryz.ntmps81
  go_wp2_with fail
  rw [← HW.out]
  refine HC.out.mono ?_
  rintro e w1 ⟨⟨n, rfl, hn⟩, hb2⟩
  have hb2' : Below w.heap.size w w1 := HB1.out.trans (hb2.mono HB1.out.size)
  have z2 : w1.cell? ⟨w.heap.size, 0, none⟩ = some (Value.slice a len cap) := out_cell z1 (hb2.block _ (by omega))
  have HB2 := Lib.hid hb2'
  have HN := Lib.hid hn
  clear hb2 hb2' hn z1
  by_cases hn0 : n = 0
  · subst hn0
    go_wp2_with fail
    go_loopw [15] (fun x15 wr => ∃ i : Nat, i ≤ xs.length ∧ x15 = .int .i64 i ∧ wr = w1 ∧ ∀ j x, j < i → xs[j]? = some x → 0 ≤ x ∧ x < len) (fun x15 _ => xs.length - (intOf x15).toNat)
    case atStart => exact ⟨0, by omega, rfl, rfl, fun j x hj => by omega⟩
    case round =>
      obtain ⟨i, hi, rfl, rfl, hall⟩ := hrel
      have HALL := Lib.hid hall
      clear hall
      by_cases hlt : i < xs.length
      · have hne : xs.map (Value.int .i64) ≠ [] := by intro e; simp at e; subst e; simp at hlt
        obtain ⟨rfl, hg⟩ := H1.out hne
        have hxi : xs[i]? = some xs[i] := List.getElem?_eq_getElem hlt
        generalize xs[i] = x at hxi
        have q := (HB2.out.cell (p := ⟨lg, i, none⟩) hg).trans (H2.out i (.int .i64 x) (by rw [List.getElem?_map, hxi]; rfl))
        by_cases hx0 : x < 0
        · go_wp2_with fail
          go_ret
          exact ⟨⟨2, rfl, fun h => by cases h⟩, HB2.out⟩
        · by_cases hx1 : (len : Int) ≤ x
          · have hx2 : decide (x < 0) = false := by simp <;> omega
            go_wp2_with fail
            go_ret
            exact ⟨⟨2, rfl, fun h => by cases h⟩, HB2.out⟩
          · have hx2 : decide (x < 0) = false := by simp <;> omega
            have hx3 : decide ((len : Int) ≤ x) = false := by simp <;> omega
            go_wp2_with fail
            go_roundw
            case rel =>
              refine ⟨i + 1, by omega, by go_num, by first | trivial | rfl, fun j x' hj hj' => ?_⟩
              by_cases hji : j = i
              · subst hji; rw [hxi] at hj'; injection hj' with hj'; subst hj'; omega
              · exact HALL.out j x' (by omega) hj'
            case measure => simp [intOf]; omega
      · have hie : xs.length = i := by omega
        subst hie
        go_wp2_with fail
        go_ret
        exact ⟨⟨0, rfl, fun _ => ⟨HN.out (by first | trivial | rfl), fun x hx => by
          obtain ⟨j, hj⟩ := List.getElem?_of_mem hx
          exact HALL.out j x (List.getElem?_eq_some_iff.1 hj).1 hj⟩⟩, HB2.out⟩
  · have hn1 : (n != 0) = true := by simp [hn0]
    go_wp2_with fail
    go_ret
    exact ⟨⟨n, rfl, fun h => absurd h hn0⟩, HB2.out⟩
end Go.Proofs.YtgkamgijnhbcbaaGreatDoor
namespace Go.Proofs.YtgkamgijnhbcbaaGreatDoor
open Go.RowKit Go.Vt Go.Proofs
/-- How many steps the chain has from k on. -/
def chainN (rows : List (List C)) : Nat → Int → Nat
  | 0, _ => 0
  | m + 1, k => if k < 0 then 0 else 1 + chainN rows m (par rows k.toNat)
theorem Ends.up {rows : List (List C)} {len : Nat} : ∀ (m : Nat) (k : Int), Ends rows len m k → Ends rows len (m + 1) k
  | 0, _k, h => .inl h
  | m + 1, _k, h => h.elim .inl fun h => .inr ⟨h.1, Ends.up m _ h.2⟩
theorem Ends.stay {rows : List (List C)} {len : Nat} : ∀ (m : Nat) (k : Int), Ends rows len m k → chainN rows (m + 1) k = chainN rows m k
  | 0, k, h => by simp only [Ends] at h; simp [chainN, h]
  | m + 1, k, h => by
    rcases h with h | ⟨h1, h2⟩
    · simp [chainN, h]
    · have := Ends.stay m _ h2
      by_cases hk : k < 0
      · simp [chainN, hk]
      · rw [chainN, if_neg hk, this, chainN, if_neg hk]
theorem Ends.step {rows : List (List C)} {len m : Nat} {k : Nat} (h : Ends rows len (m + 1) k) : Ends rows len (m + 1) (par rows k) ∧ chainN rows (m + 1) (par rows k) < chainN rows (m + 1) k := by
  rcases h with h | ⟨h1, h2⟩
  · omega
  · rw [Int.toNat_natCast] at h2
    refine ⟨Ends.up _ _ h2, ?_⟩
    rw [Ends.stay _ _ h2]
    have : chainN rows (m + 1) (k : Int) = 1 + chainN rows m (par rows k) := by
      rw [chainN, if_neg (by omega), Int.toNat_natCast]
    omega
def PairP (e : Ending) : Prop := ∃ a b, e = .returned (.tuple #[a, b])
end Go.Proofs.YtgkamgijnhbcbaaGreatDoor
namespace Go.Proofs.YtgkamgijnhbcbaaGreatDoor
open Go.RowKit Go.Vt Go.Proofs
set_option maxRecDepth 100000 in
theorem depth_ok (F : Nat → Prop) (w : World) (v : Value) (x : Int) (len cap : Nat) (rows : List (List C)) (hr : Rd F w (.sl 4 len cap rows) v) (ht : HtRows tab [.str, .sl 201, .int .i64, .sl 3] rows) (hF : ∀ k, F k → k < w.heap.size) (hnn : nodesRows rows ≤ 1099511627776) :
    Calls Tryz.prog 55 #[.agg #[v], .int .i64 x] w fun e w' => PairP e ∧ Below w.heap.size w w' := by
  obtain ⟨a, b, o, rfl, h2, h3⟩ := row_at hr hF
  obtain ⟨W, hW⟩ : ∃ W, W = (w.alloc (Obj.cells #[Value.slice a len cap] 24)).alloc (Obj.cells #[Value.int .i64 x] 3) := ⟨_, rfl⟩
  have hb1 : Below w.heap.size w W := by rw [hW]; exact ((Below.refl _ _).alloc (Nat.le_refl _) _).alloc (by rw [alloc_size]; omega) _
  have s1 : W.heap.size = w.heap.size + 2 := by rw [hW, alloc_size, alloc_size]
  have z1 : W.cell? ⟨w.heap.size, 0, none⟩ = some (Value.slice a len cap) := by rw [hW]; exact out_cell (cell_of_row _ _ 0 _ _ _ (heap_alloc_new w _)) (Below.heap_alloc _ _ _ (by rw [alloc_size]; omega))
  have y1 : W.cell? ⟨w.heap.size + 1, 0, none⟩ = some (Value.int .i64 x) := by
    rw [hW]; have := heap_alloc_new (w.alloc (Obj.cells #[Value.slice a len cap] 24)) (Obj.cells #[Value.int .i64 x] 3); rw [alloc_size] at this; exact cell_of_row _ _ 0 _ _ _ this
  have hc := asked_ok F W (.slice a len cap) (.slice (some ⟨w.heap.size + 1, 0, none⟩) 1 1) len cap rows [x] (Rd.mono (fun k hk => ⟨hk, hb1.block k (hF k hk)⟩) _ _ hr) ht (fun k hk => Nat.lt_of_lt_of_le (hF k hk) hb1.size) hnn ⟨_, 1, w.heap.size + 1, rfl, fun _ => ⟨rfl, by omega⟩, fun j u hu => by
    cases j with
    | zero => simp at hu; subst hu; exact y1
    | succ j => simp at hu⟩ (by simp)
  have hlen : len ≤ 1099511627776 := by have := nodesRows_len rows; omega
  have HC := Lib.hid hc
  have HW := Lib.hid hW
  have H3 := Lib.hid h3
  have HT := Lib.hid ht
  have HB1 := Lib.hid hb1
  clear hc hW hb1 h3 hr ht hF y1
  go_enter Tryz.func55, Tryz.ntmps55
  go_wp2_with fail
  rw [← HW.out]
  refine HC.out.mono ?_
  rintro e w1 ⟨⟨n, rfl, hn⟩, hb2⟩
  have hb2' : Below w.heap.size w w1 := HB1.out.trans (hb2.mono HB1.out.size)
  have z2 : w1.cell? ⟨w.heap.size, 0, none⟩ = some (Value.slice a len cap) := out_cell z1 (hb2.block _ (by omega))
  have HB2 := Lib.hid hb2'
  have HN := Lib.hid hn
  clear hb2 hb2' hn z1
  by_cases hn0 : n = 0
  · subst hn0
    obtain ⟨hG, hxs⟩ := HN.out rfl
    obtain ⟨hx1, hx2⟩ := hxs x (by simp)
    obtain ⟨xn, rfl⟩ := Int.eq_ofNat_of_zero_le hx1
    have HG := Lib.hid hG
    clear hG hxs HN
    have hrk : rows[xn]? = some (rows[xn]'(by omega)) := List.getElem?_eq_getElem _
    generalize rows[xn]'(by omega) = rk at hrk
    obtain ⟨rfl, _, hbl, hrd⟩ := H3.out xn rk hrk
    obtain ⟨_, _, _, _, _, pp, _, _, _, _, rfl, _, _, _, _, _, _, n2, _⟩ := node_at hrk HT.out hrd
    have hpp : par rows xn = pp := by simp only [par, hrk]; rfl
    have q2 := (HB2.out.cell (p := ⟨b, o + xn * 4 + 2, none⟩) hbl).trans n2
    have hpr := HG.out.pr xn (by omega)
    have hst := (Ends.step (m := len) (HG.out.en xn (by omega))).1
    rw [hpp] at hpr hst
    have HST := Lib.hid hst
    have HPR := Lib.hid hpr
    clear n2 hrd hrk hpp hpr hst
    go_wp2_with fail
    go_loopw [7, 8] (fun x7 x8 wr => ∃ (n k : Int), x7 = .int .i64 n ∧ x8 = .int .i64 k ∧ -1 ≤ k ∧ k < len ∧ wr = w1 ∧ Ends rows len (len + 1) k) (fun x7 x8 _ => chainN rows (len + 1) (intOf x8))
    case atStart => exact ⟨0, pp, rfl, rfl, HPR.out.1, HPR.out.2, rfl, HST.out⟩
    case round =>
      obtain ⟨n, k, rfl, rfl, hk1, hk2, rfl, hen⟩ := hrel
      clear q2
      rcases Int.lt_or_le k 0 with hk | hk
      · go_wp2_with fail
        refine bodyPost_ret (results_tmp2 rfl _ _ _) rfl ?_
        exact ⟨⟨_, _, rfl⟩, HB2.out⟩
      · obtain ⟨kn, rfl⟩ := Int.eq_ofNat_of_zero_le hk
        have HEN := Lib.hid (Ends.step (m := len) hen)
        clear hen
        have hrk : rows[kn]? = some (rows[kn]'(by omega)) := List.getElem?_eq_getElem _
        generalize rows[kn]'(by omega) = rk at hrk
        obtain ⟨_, _, _, hrd⟩ := H3.out kn rk hrk
        obtain ⟨_, _, _, _, _, pk, _, _, _, _, rfl, _, _, _, _, _, _, n2, _⟩ := node_at hrk HT.out hrd
        have hpp : par rows kn = pk := by simp only [par, hrk]; rfl
        have q2 := (HB2.out.cell (p := ⟨b, o + kn * 4 + 2, none⟩) hbl).trans n2
        have hpr := HG.out.pr kn (by omega)
        rw [hpp] at hpr HEN
        have HPK := Lib.hid hpr
        clear n2 hrd hrk hpp hpr
        go_wp2_with fail
        go_roundw
        case rel => exact ⟨_, pk, rfl, rfl, HPK.out.1, HPK.out.2, by first | trivial | rfl, HEN.out.1⟩
        case measure => have := HEN.out.2; simpa [intOf] using this
  · have hn1 : (n != 0) = true := by simp [hn0]
    go_wp2_with fail
    refine bodyPost_ret (results_tmp2 rfl _ _ _) rfl ?_
    exact ⟨⟨_, _, rfl⟩, HB2.out⟩
end Go.Proofs.YtgkamgijnhbcbaaGreatDoor
namespace Go.Proofs.YtgkamgijnhbcbaaGreatDoor
open Go.RowKit Go.Vt Go.Proofs
set_option maxRecDepth 100000 in
theorem below_ok (F : Nat → Prop) (w : World) (v : Value) (x ab : Int) (len cap : Nat) (rows : List (List C)) (hr : Rd F w (.sl 4 len cap rows) v) (ht : HtRows tab [.str, .sl 201, .int .i64, .sl 3] rows) (hF : ∀ k, F k → k < w.heap.size) (hnn : nodesRows rows ≤ 1099511627776) :
    Calls Tryz.prog 396 #[.agg #[v], .int .i64 x, .int .i64 ab] w fun e w' => PairP e ∧ Below w.heap.size w w' := by
  obtain ⟨a, b, o, rfl, h2, h3⟩ := row_at hr hF
  obtain ⟨W, hW⟩ : ∃ W, W = (w.alloc (Obj.cells #[Value.slice a len cap] 24)).alloc (Obj.cells #[Value.int .i64 x, Value.int .i64 ab] 3) := ⟨_, rfl⟩
  have hb1 : Below w.heap.size w W := by rw [hW]; exact ((Below.refl _ _).alloc (Nat.le_refl _) _).alloc (by rw [alloc_size]; omega) _
  have s1 : W.heap.size = w.heap.size + 2 := by rw [hW, alloc_size, alloc_size]
  have z1 : W.cell? ⟨w.heap.size, 0, none⟩ = some (Value.slice a len cap) := by rw [hW]; exact out_cell (cell_of_row _ _ 0 _ _ _ (heap_alloc_new w _)) (Below.heap_alloc _ _ _ (by rw [alloc_size]; omega))
  have y0 : W.heap[w.heap.size + 1]? = some (.cells #[Value.int .i64 x, Value.int .i64 ab] 3 (0, 0)) := by
    rw [hW]; have := heap_alloc_new (w.alloc (Obj.cells #[Value.slice a len cap] 24)) (Obj.cells #[Value.int .i64 x, Value.int .i64 ab] 3); rw [alloc_size] at this; exact this
  have y1 : W.cell? ⟨w.heap.size + 1, 0, none⟩ = some (Value.int .i64 x) := cell_of_row _ _ 0 _ _ _ y0
  have y2 : W.cell? ⟨w.heap.size + 1, 1, none⟩ = some (Value.int .i64 ab) := cell_of_row _ _ 1 _ _ _ y0
  have hc := asked_ok F W (.slice a len cap) (.slice (some ⟨w.heap.size + 1, 0, none⟩) 2 2) len cap rows [x, ab] (Rd.mono (fun k hk => ⟨hk, hb1.block k (hF k hk)⟩) _ _ hr) ht (fun k hk => Nat.lt_of_lt_of_le (hF k hk) hb1.size) hnn ⟨_, 2, w.heap.size + 1, rfl, fun _ => ⟨rfl, by omega⟩, fun j u hu => by
    cases j with
    | zero => simp at hu; subst hu; exact y1
    | succ j =>
      cases j with
      | zero => simp at hu; subst hu; exact y2
      | succ j => simp at hu⟩ (by simp)
  have hlen : len ≤ 1099511627776 := by have := nodesRows_len rows; omega
  have HC := Lib.hid hc
  have HW := Lib.hid hW
  have H3 := Lib.hid h3
  have HT := Lib.hid ht
  have HB1 := Lib.hid hb1
  clear hc hW hb1 h3 hr ht hF y1 y2 y0
  go_enter Tryz.func396, Tryz.ntmps396
  go_wp2_with fail
  rw [← HW.out]
  refine HC.out.mono ?_
  rintro e w1 ⟨⟨n, rfl, hn⟩, hb2⟩
  have hb2' : Below w.heap.size w w1 := HB1.out.trans (hb2.mono HB1.out.size)
  have z2 : w1.cell? ⟨w.heap.size, 0, none⟩ = some (Value.slice a len cap) := out_cell z1 (hb2.block _ (by omega))
  have HB2 := Lib.hid hb2'
  have HN := Lib.hid hn
  clear hb2 hb2' hn z1
  by_cases hn0 : n = 0
  · subst hn0
    obtain ⟨hG, hxs⟩ := HN.out rfl
    obtain ⟨hx1, hx2⟩ := hxs x (by simp)
    obtain ⟨xn, rfl⟩ := Int.eq_ofNat_of_zero_le hx1
    have HG := Lib.hid hG
    clear hG hxs HN
    have hrk : rows[xn]? = some (rows[xn]'(by omega)) := List.getElem?_eq_getElem _
    generalize rows[xn]'(by omega) = rk at hrk
    obtain ⟨rfl, _, hbl, hrd⟩ := H3.out xn rk hrk
    obtain ⟨_, _, _, _, _, pp, _, _, _, _, rfl, _, _, _, _, _, _, n2, _⟩ := node_at hrk HT.out hrd
    have hpp : par rows xn = pp := by simp only [par, hrk]; rfl
    have q2 := (HB2.out.cell (p := ⟨b, o + xn * 4 + 2, none⟩) hbl).trans n2
    have hpr := HG.out.pr xn (by omega)
    have hst := (Ends.step (m := len) (HG.out.en xn (by omega))).1
    rw [hpp] at hpr hst
    have HST := Lib.hid hst
    have HPR := Lib.hid hpr
    clear n2 hrd hrk hpp hpr hst
    go_wp2_with fail
    go_loopw [9] (fun x9 wr => ∃ (k : Int), x9 = .int .i64 k ∧ -1 ≤ k ∧ k < len ∧ wr = w1 ∧ Ends rows len (len + 1) k) (fun x9 _ => chainN rows (len + 1) (intOf x9))
    case atStart => exact ⟨pp, rfl, HPR.out.1, HPR.out.2, rfl, HST.out⟩
    case round =>
      obtain ⟨k, rfl, hk1, hk2, rfl, hen⟩ := hrel
      clear q2
      rcases Int.lt_or_le k 0 with hk | hk
      · go_wp2_with fail
        refine bodyPost_ret (results_tmp2 rfl _ _ _) rfl ?_
        exact ⟨⟨_, _, rfl⟩, HB2.out⟩
      · obtain ⟨kn, rfl⟩ := Int.eq_ofNat_of_zero_le hk
        have HEN := Lib.hid (Ends.step (m := len) hen)
        clear hen
        have hrk : rows[kn]? = some (rows[kn]'(by omega)) := List.getElem?_eq_getElem _
        generalize rows[kn]'(by omega) = rk at hrk
        obtain ⟨_, _, _, hrd⟩ := H3.out kn rk hrk
        obtain ⟨_, _, _, _, _, pk, _, _, _, _, rfl, _, _, _, _, _, _, n2, _⟩ := node_at hrk HT.out hrd
        have hpp : par rows kn = pk := by simp only [par, hrk]; rfl
        have q2 := (HB2.out.cell (p := ⟨b, o + kn * 4 + 2, none⟩) hbl).trans n2
        have hpr := HG.out.pr kn (by omega)
        rw [hpp] at hpr HEN
        have HPK := Lib.hid hpr
        clear n2 hrd hrk hpp hpr
        by_cases hab : (kn : Int) = ab
        · subst hab
          go_wp2_with fail
          refine bodyPost_ret (results_tmp2 rfl _ _ _) rfl ?_
          exact ⟨⟨_, _, rfl⟩, HB2.out⟩
        · have hab2 : ((kn : Int) == ab) = false := by simp [hab]
          go_wp2_with fail
          go_roundw
          case rel => exact ⟨pk, rfl, HPK.out.1, HPK.out.2, by first | trivial | rfl, HEN.out.1⟩
          case measure => have := HEN.out.2; simpa [intOf] using this
  · have hn1 : (n != 0) = true := by simp [hn0]
    go_wp2_with fail
    refine bodyPost_ret (results_tmp2 rfl _ _ _) rfl ?_
    exact ⟨⟨_, _, rfl⟩, HB2.out⟩
end Go.Proofs.YtgkamgijnhbcbaaGreatDoor
