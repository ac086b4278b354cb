/- mutate.check and mutate.put: a tree in new memory in which one node lies below another. -/
import Derived.Test.YtomnkglnbmnmpaaGreatDoorNumbers
import Derived.Test.YtomnkglnbmnmpaaGreatDoorTaken
import Derived.Test.YtomnkglnbmnmpaaGreatDoorWalks
import Derived.WalkKit
import Derived.WalkSpells
import Derived.WalkLawsBesides
import Derived.Deep.QuietTactic
import Derived.BigQuiet
import Derived.Test.YtomnkglnbmnmpaaGreatDoorCheck
namespace Go.Proofs.YtomnkglnbmnmpaaGreatDoor
open Go.RowKit Go.Vt Go.Proofs
set_option maxRecDepth 100000 in
/-- slices.Index over numbers: -1, or a place in the list. -/
theorem index_int (w : World) (v : Value) (len cap : Nat) (x : Int) (hv : (v = .slice none 0 0 ∧ len = 0) ∨ ∃ g, v = .slice (some ⟨g, 0, none⟩) len cap ∧ IntsAt w 3 g len cap) (hl : len ≤ 1099511627776) :
    Calls Tryz.prog 93 #[v, .int .i64 x] w fun e w' => (∃ i : Int, e = .returned (.int .i64 i) ∧ -1 ≤ i ∧ i < len) ∧ w' = w := by
  obtain ⟨a, c, rfl, hi⟩ : ∃ a c, v = .slice a len c ∧ ∀ j, j < len → ∃ g z, a = some ⟨g, 0, none⟩ ∧ w.cell? ⟨g, j, none⟩ = some (.int .i64 z) := by
    rcases hv with ⟨rfl, rfl⟩ | ⟨g, rfl, h⟩
    · exact ⟨none, 0, rfl, fun j hj => by omega⟩
    · exact ⟨_, cap, rfl, fun j hj => by obtain ⟨z, h1, _⟩ := h.cell hj; exact ⟨g, z, rfl, h1⟩⟩
  have H := Lib.hid hi
  clear hi hv
  go_enter Tryz.func93, Tryz.ntmps93
  go_wp2_with fail
  go_loopw [8] (fun x8 wr => ∃ i : Nat, i ≤ len ∧ x8 = .int .i64 i ∧ wr = w) (fun x8 _ => len - (intOf x8).toNat)
  case atStart => exact ⟨0, by omega, rfl, rfl⟩
  case round =>
    obtain ⟨i, hi, rfl, hwr⟩ := hrel
    by_cases hlt : i < len
    case pos =>
      obtain ⟨g, z, rfl, hz⟩ := H.out i hlt
      have hzr : wr.cell? ⟨g, i, none⟩ = some (.int .i64 z) := by rw [hwr]; exact hz
      have HW := Lib.hid hwr
      clear hwr hz
      by_cases he : x = z
      case pos =>
        have he1 : (x == z) = true := by simp [he]
        have he2 : (z == x) = true := by simp [he]
        go_wp2_with fail
        go_ret
        exact ⟨⟨i, rfl, by omega, by omega⟩, HW.out⟩
      case neg =>
        have he1 : (x == z) = false := by simp [he]
        have he2 : (z == x) = false := by simp; exact fun e => he e.symm
        have he3 : ¬ z = x := fun e => he e.symm
        go_wp2_with fail
        exact ⟨⟨i + 1, by omega, by go_num, HW.out⟩, by simp [intOf]; omega⟩
    case neg =>
      obtain rfl : i = len := by omega
      have HW := Lib.hid hwr
      clear hwr
      go_wp2_with fail
      go_ret
      exact ⟨⟨-1, rfl, by omega, by omega⟩, HW.out⟩
end Go.Proofs.YtomnkglnbmnmpaaGreatDoor
namespace Go.Proofs.YtomnkglnbmnmpaaGreatDoor
open Go.RowKit Go.Vt Go.Proofs
/-- A truth and a number. -/
def PairB (e : Ending) : Prop := ∃ (a : Bool) (b : Int), e = .returned (.tuple #[.bool a, .int .i64 b])
set_option maxRecDepth 100000 in
theorem below_pair (F : Nat → Prop) (w : World) (v : Value) (x ab : Int) (len cap : Nat) (rows : List (List C)) (hr : Rd F w (.sl 4 len cap rows) v) (ht : HtRows tab [.str, .sl 116, .int .i64, .sl 3] rows) (hF : ∀ k, F k → k < w.heap.size) (hnn : nodesRows rows ≤ 1099511627776) :
    Calls Tryz.prog 100 #[.agg #[v], .int .i64 x, .int .i64 ab] w fun e w' => PairB e ∧ Below w.heap.size w w' := by
  obtain ⟨a, b, o, rfl, h2, h3⟩ := row_at hr hF
  obtain ⟨W, hW⟩ : ∃ W, W = (w.alloc (Obj.cells #[Value.slice a len cap] 24)).alloc (Obj.cells #[Value.int .i64 x, Value.int .i64 ab] 3) := ⟨_, rfl⟩
  have hb1 : Below w.heap.size w W := by rw [hW]; exact ((Below.refl _ _).alloc (Nat.le_refl _) _).alloc (by rw [alloc_size]; omega) _
  have s1 : W.heap.size = w.heap.size + 2 := by rw [hW, alloc_size, alloc_size]
  have z1 : W.cell? ⟨w.heap.size, 0, none⟩ = some (Value.slice a len cap) := by rw [hW]; exact out_cell (cell_of_row _ _ 0 _ _ _ (heap_alloc_new w _)) (Below.heap_alloc _ _ _ (by rw [alloc_size]; omega))
  have y0 : W.heap[w.heap.size + 1]? = some (.cells #[Value.int .i64 x, Value.int .i64 ab] 3 (0, 0)) := by
    rw [hW]; have := heap_alloc_new (w.alloc (Obj.cells #[Value.slice a len cap] 24)) (Obj.cells #[Value.int .i64 x, Value.int .i64 ab] 3); rw [alloc_size] at this; exact this
  have y1 : W.cell? ⟨w.heap.size + 1, 0, none⟩ = some (Value.int .i64 x) := cell_of_row _ _ 0 _ _ _ y0
  have y2 : W.cell? ⟨w.heap.size + 1, 1, none⟩ = some (Value.int .i64 ab) := cell_of_row _ _ 1 _ _ _ y0
  have hc := asked_ok F W (.slice a len cap) (.slice (some ⟨w.heap.size + 1, 0, none⟩) 2 2) len cap rows [x, ab] (Rd.mono (fun k hk => ⟨hk, hb1.block k (hF k hk)⟩) _ _ hr) ht (fun k hk => Nat.lt_of_lt_of_le (hF k hk) hb1.size) hnn ⟨_, 2, w.heap.size + 1, rfl, fun _ => ⟨rfl, by omega⟩, fun j u hu => by
    cases j with
    | zero => simp at hu; subst hu; exact y1
    | succ j =>
      cases j with
      | zero => simp at hu; subst hu; exact y2
      | succ j => simp at hu⟩ (by simp)
  have hlen : len ≤ 1099511627776 := by have := nodesRows_len rows; omega
  have HC := Lib.hid hc
  have HW := Lib.hid hW
  have H3 := Lib.hid h3
  have HT := Lib.hid ht
  have HB1 := Lib.hid hb1
  clear hc hW hb1 h3 hr ht hF y1 y2 y0
  go_enter Tryz.func100, Tryz.ntmps100
  go_wp2_with fail
  rw [← HW.out]
  refine HC.out.mono ?_
  rintro e w1 ⟨⟨n, rfl, hn⟩, hb2⟩
  have hb2' : Below w.heap.size w w1 := HB1.out.trans (hb2.mono HB1.out.size)
  have z2 : w1.cell? ⟨w.heap.size, 0, none⟩ = some (Value.slice a len cap) := out_cell z1 (hb2.block _ (by omega))
  have HB2 := Lib.hid hb2'
  have HN := Lib.hid hn
  clear hb2 hb2' hn z1
  by_cases hn0 : n = 0
  · subst hn0
    obtain ⟨hG, hxs⟩ := HN.out rfl
    obtain ⟨hx1, hx2⟩ := hxs x (by simp)
    obtain ⟨xn, rfl⟩ := Int.eq_ofNat_of_zero_le hx1
    have HG := Lib.hid hG
    clear hG hxs HN
    have hrk : rows[xn]? = some (rows[xn]'(by omega)) := List.getElem?_eq_getElem _
    generalize rows[xn]'(by omega) = rk at hrk
    obtain ⟨rfl, _, hbl, hrd⟩ := H3.out xn rk hrk
    obtain ⟨_, _, _, _, _, pp, _, _, _, _, rfl, _, _, _, _, _, _, n2, _⟩ := node_at hrk HT.out hrd
    have hpp : par rows xn = pp := by simp only [par, hrk]; rfl
    have q2 := (HB2.out.cell (p := ⟨b, o + xn * 4 + 2, none⟩) hbl).trans n2
    have hpr := HG.out.pr xn (by omega)
    have hst := (Ends.step (m := len) (HG.out.en xn (by omega))).1
    rw [hpp] at hpr hst
    have HST := Lib.hid hst
    have HPR := Lib.hid hpr
    clear n2 hrd hrk hpp hpr hst
    go_wp2_with fail
    go_loopw [9] (fun x9 wr => ∃ (k : Int), x9 = .int .i64 k ∧ -1 ≤ k ∧ k < len ∧ wr = w1 ∧ Ends rows len (len + 1) k) (fun x9 _ => chainN rows (len + 1) (intOf x9))
    case atStart => exact ⟨pp, rfl, HPR.out.1, HPR.out.2, rfl, HST.out⟩
    case round =>
      obtain ⟨k, rfl, hk1, hk2, rfl, hen⟩ := hrel
      clear q2
      rcases Int.lt_or_le k 0 with hk | hk
      · go_wp2_with fail
        refine bodyPost_ret (results_tmp2 rfl _ _ _) rfl ?_
        exact ⟨⟨_, _, rfl⟩, HB2.out⟩
      · obtain ⟨kn, rfl⟩ := Int.eq_ofNat_of_zero_le hk
        have HEN := Lib.hid (Ends.step (m := len) hen)
        clear hen
        have hrk : rows[kn]? = some (rows[kn]'(by omega)) := List.getElem?_eq_getElem _
        generalize rows[kn]'(by omega) = rk at hrk
        obtain ⟨_, _, _, hrd⟩ := H3.out kn rk hrk
        obtain ⟨_, _, _, _, _, pk, _, _, _, _, rfl, _, _, _, _, _, _, n2, _⟩ := node_at hrk HT.out hrd
        have hpp : par rows kn = pk := by simp only [par, hrk]; rfl
        have q2 := (HB2.out.cell (p := ⟨b, o + kn * 4 + 2, none⟩) hbl).trans n2
        have hpr := HG.out.pr kn (by omega)
        rw [hpp] at hpr HEN
        have HPK := Lib.hid hpr
        clear n2 hrd hrk hpp hpr
        by_cases hab : (kn : Int) = ab
        · subst hab
          go_wp2_with fail
          refine bodyPost_ret (results_tmp2 rfl _ _ _) rfl ?_
          exact ⟨⟨_, _, rfl⟩, HB2.out⟩
        · have hab2 : ((kn : Int) == ab) = false := by simp [hab]
          go_wp2_with fail
          go_roundw
          case rel => exact ⟨pk, rfl, HPK.out.1, HPK.out.2, by first | trivial | rfl, HEN.out.1⟩
          case measure => have := HEN.out.2; simpa [intOf] using this
  · have hn1 : (n != 0) = true := by simp [hn0]
    go_wp2_with fail
    refine bodyPost_ret (results_tmp2 rfl _ _ _) rfl ?_
    exact ⟨⟨_, _, rfl⟩, HB2.out⟩
end Go.Proofs.YtomnkglnbmnmpaaGreatDoor
namespace Go.Proofs.YtomnkglnbmnmpaaGreatDoor
open Go.RowKit Go.Vt Go.Proofs
set_option maxRecDepth 100000 in
set_option maxHeartbeats 1000000 in
/-- mutate.check: where it is 0 the tree is well made and both elements lie in it. -/
theorem mcheck_ok (F : Nat → Prop) (w : World) (v : Value) (len cap : Nat) (rows : List (List C)) (child other : Int) (hr : Rd F w (.sl 4 len cap rows) v) (ht : HtRows tab [.str, .sl 116, .int .i64, .sl 3] rows) (hF : ∀ k, F k → k < w.heap.size) (hnn : nodesRows rows ≤ 1099511627776) :
    Calls Tryz.prog 74 #[.agg #[v], .int .i64 child, .int .i64 other] w fun e w' => (∃ n : Int, e = .returned (.int .i64 n) ∧ (n = 0 → Good rows len ∧ 1 ≤ child ∧ child < len ∧ 0 ≤ other ∧ other < len)) ∧ Below w.heap.size w w' := by
  obtain ⟨a, rfl⟩ : ∃ a, v = .slice a len cap := by have h := hr; simp only [Rd] at h; obtain ⟨a, h, _⟩ := h; exact ⟨a, h⟩
  obtain ⟨W0, hW0⟩ : ∃ W, W = w.alloc (Obj.cells #[.slice a len cap] 24) := ⟨_, rfl⟩
  have s0 : W0.heap.size = w.heap.size + 1 := by rw [hW0, alloc_size]
  have b0 : Below w.heap.size w W0 := by rw [hW0]; exact (Below.refl _ _).alloc (Nat.le_refl _) _
  have x0 : W0.heap[w.heap.size]? = some (.cells #[.slice a len cap] 24 (0, 0)) := by rw [hW0]; exact heap_alloc_new w _
  have hc := check_ok F W0 (.slice a len cap) len cap rows (Rd.mono (fun k hk => ⟨hk, b0.block k (hF k hk)⟩) _ _ hr) ht (fun k hk => by have := hF k hk; omega) hnn
  have c0 : W0.cell? ⟨w.heap.size, 0, none⟩ = some (.slice a len cap) := cell_of_row _ _ 0 _ _ _ x0
  have HC := Lib.hid hc
  have HW := Lib.hid hW0
  have HB0 := Lib.hid b0
  have HX := Lib.hid (And.intro x0 s0)
  clear hc hr ht hF b0 x0 s0 hW0
  go_enter Tryz.func74, Tryz.ntmps74
  go_wp2_with fail
  rw [← HW.out]
  go_wp2_with fail
  refine HC.out.mono ?_
  rintro e w1 ⟨⟨n, rfl, hn⟩, hb1⟩
  have hb := HB0.out.trans (hb1.mono HB0.out.size)
  have c1 : w1.cell? ⟨w.heap.size, 0, none⟩ = some (.slice a len cap) := cell_of_row _ _ 0 _ _ _ ((hb1.block _ (by have := HX.out.2; omega)).trans HX.out.1)
  have HB := Lib.hid hb
  have HN := Lib.hid hn
  clear hb hb1 HB0 HC c0 hn HW HX
  by_cases hn0 : n = 0
  case neg =>
    have hm1 : (n != 0) = true := by simp [hn0]
    go_wp2_with fail
    go_ret
    exact ⟨⟨n, rfl, fun h => absurd h hn0⟩, HB.out⟩
  case pos =>
    subst hn0
    by_cases h1 : child < 1
    case pos =>
      go_wp2_with fail
      go_ret
      exact ⟨⟨2, rfl, fun h => by cases h⟩, HB.out⟩
    case neg =>
      have h1d : decide (child < 1) = false := by simp; omega
      by_cases h2 : (len : Int) ≤ child
      case pos =>
        go_wp2_with fail
        go_ret
        exact ⟨⟨2, rfl, fun h => by cases h⟩, HB.out⟩
      case neg =>
        have h2d : decide ((len : Int) ≤ child) = false := by simp; omega
        by_cases h3 : other < 0
        case pos =>
          go_wp2_with fail
          go_ret
          exact ⟨⟨2, rfl, fun h => by cases h⟩, HB.out⟩
        case neg =>
          have h3d : decide (other < 0) = false := by simp; omega
          by_cases h4 : (len : Int) ≤ other
          case pos =>
            go_wp2_with fail
            go_ret
            exact ⟨⟨2, rfl, fun h => by cases h⟩, HB.out⟩
          case neg =>
            have h4d : decide ((len : Int) ≤ other) = false := by simp; omega
            go_wp2_with fail
            go_ret
            exact ⟨⟨0, rfl, fun _ => ⟨HN.out (by first | trivial | rfl), by omega, by omega, by omega, by omega⟩⟩, HB.out⟩
end Go.Proofs.YtomnkglnbmnmpaaGreatDoor
