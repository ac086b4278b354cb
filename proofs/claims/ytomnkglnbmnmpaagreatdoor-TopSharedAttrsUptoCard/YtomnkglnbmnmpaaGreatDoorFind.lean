/- attrs.find: a place in the list, or its end. -/
import Derived.Test.YtomnkglnbmnmpaaGreatDoorNodeIndex
import Derived.WalkKit
import Derived.WalkSpells
import Derived.WalkLawsBesides
import Derived.Lib.Bytealg
import Derived.Deep.RegionWith
import Derived.RegionTactic
namespace Go.Proofs.YtomnkglnbmnmpaaGreatDoor
open Go.RowKit Go.Vt Go.Proofs
set_option maxRecDepth 100000 in
theorem cmpstr_ok (a b : ByteArray) (w : World) : Calls Tryz.prog 157 #[.string a, .string b] w fun e w' => (∃ n : Int, e = .returned (.int .i64 n)) ∧ w' = w := by
  go_enter Tryz.func157, Tryz.ntmps157
  go_wp2
  rw [run_callFunc_extern Tryz.func200 (by kernel_rfl) (by kernel_rfl) (by kernel_rfl) (e := Extern.BytealgCompare.compare) (by kernel_rfl), Lib.run_compareString]
  simp only [Result.andThen]
  rw [Oper.upon_value]
  go_wp2
  go_ret
  exact ⟨⟨_, rfl⟩, rfl⟩
set_option maxRecDepth 100000 in
theorem compare_ok (a b : ByteArray) (w : World) : Calls Tryz.prog 117 #[.string a, .string b] w fun e w' => (∃ n : Int, e = .returned (.int .i64 n)) ∧ w' = w := by
  go_enter Tryz.func117, Tryz.ntmps117
  go_wp2_with fail
  refine (cmpstr_ok _ _ _).mono ?_
  rintro e w1 ⟨⟨n, rfl⟩, rfl⟩
  go_wp2_with fail
  go_ret
  exact ⟨⟨_, rfl⟩, rfl⟩
set_option maxRecDepth 100000 in
theorem findc_ok (a b s : ByteArray) (w : World) : Calls Tryz.prog 116 #[.agg #[.string a, .string b], .string s] w fun e w' => (∃ n : Int, e = .returned (.int .i64 n)) ∧ Below w.heap.size w w' := by
  have hc := compare_ok
  have HC := Lib.hid hc
  clear hc
  go_enter Tryz.func116, Tryz.ntmps116
  go_wp2_with fail
  refine (HC.out _ _ _).mono ?_
  rintro e w1 ⟨⟨n, rfl⟩, rfl⟩
  go_wp2_with fail
  go_ret
  exact ⟨⟨_, rfl⟩, (Below.refl _ _).alloc (Nat.le_refl _) _⟩
theorem half_i64 (lo hi : Nat) : ((lo : Int) + (hi : Int)) / 2 = (((lo + hi) / 2 : Nat) : Int) := by omega
set_option maxRecDepth 100000 in
set_option maxHeartbeats 1000000 in
/-- slices.BinarySearchFunc over attributes: a place in the list, or its end. -/
theorem search_ok (F : Nat → Prop) (w : World) (v : Value) (s : ByteArray) (len cap : Nat) (rows : List (List C)) (hr : Rd F w (.sl 2 len cap rows) v) (ht : HtRows tab [.str, .str] rows) (hF : ∀ k, F k → k < w.heap.size) (hl : len ≤ 1099511627776) :
    Calls Tryz.prog 115 #[v, .string s, .func (.func 116) #[] #[]] w fun e w' => (∃ (k : Nat) (f : Bool), e = .returned (.tuple #[.int .i64 k, .bool f]) ∧ k ≤ len ∧ (f = true → k < len)) ∧ Below w.heap.size w w' := by
  obtain ⟨a, b, o, rfl, h2, h3⟩ := row_at hr hF
  have H3 := Lib.hid h3
  have HT := Lib.hid ht
  have HC := Lib.hid findc_ok
  clear hr h3 ht hF
  go_enter Tryz.func115, Tryz.ntmps115
  go_wp2_with fail
  go_loopw [9, 10] (fun x9 x10 wr => ∃ lo hi : Nat, lo ≤ hi ∧ hi ≤ len ∧ x9 = .int .i64 lo ∧ x10 = .int .i64 hi ∧ Below w.heap.size w wr) (fun x9 x10 _ => (intOf x10).toNat - (intOf x9).toNat)
  case atStart => exact ⟨0, len, by omega, by omega, rfl, rfl, Below.refl _ _⟩
  case round =>
    obtain ⟨lo, hi, h1, h4, rfl, rfl, hB⟩ := hrel
    by_cases hlt : lo < hi
    case pos =>
      obtain ⟨m, hm⟩ : ∃ m, m = (lo + hi) / 2 := ⟨_, rfl⟩
      have hm1 : m < hi := by omega
      have hm0 : lo ≤ m := by omega
      have hml : m < len := by omega
      have hmm : ((lo : Int) + (hi : Int)) / 2 = (m : Int) := by omega
      have hri : rows[m]? = some (rows[m]'(by omega)) := List.getElem?_eq_getElem _
      generalize rows[m]'(by omega) = r at hri
      obtain ⟨rfl, _, hbl, hrd⟩ := H3.out m r hri
      obtain ⟨c0, cs0, rfl, k0, ht1⟩ := (ht_at _ _ _ HT.out hri).cons
      obtain ⟨c1, cs1, rfl, k1, ht2⟩ := ht1.cons
      obtain rfl := ht2.nil
      obtain ⟨nm, rfl⟩ := ht_str k0
      obtain ⟨vl, rfl⟩ := ht_str k1
      simp only [RdRow, Rd, and_true, exists_eq_right] at hrd
      obtain ⟨q0, q1⟩ := hrd
      have p0 := (hB.cell (p := ⟨b, o + m * 2, none⟩) hbl).trans q0
      have p1 := (hB.cell (p := ⟨b, o + m * 2 + 1, none⟩) hbl).trans q1
      have HB := Lib.hid hB
      have HM := Lib.hid hm
      clear hB q0 q1 k0 k1 ht1 ht2 hm
      go_wp2_with fail
      refine (HC.out _ _ _ _).mono ?_
      rintro e w1 ⟨⟨n, rfl⟩, hb1⟩
      have hB2 := HB.out.trans (hb1.mono HB.out.size)
      clear hb1 p0 p1
      have HB2 := Lib.hid hB2
      clear hB2
      by_cases hn : n < 0
      case pos =>
        go_wp2_with fail
        exact ⟨⟨m + 1, hi, by omega, by omega, by go_num, rfl, HB2.out⟩, by simp [intOf]; omega⟩
      case neg =>
        have hn1 : decide (n < 0) = false := by simp; omega
        go_wp2_with fail
        exact ⟨⟨lo, m, by omega, by omega, rfl, rfl, HB2.out⟩, by simp [intOf]; omega⟩
    case neg =>
      obtain rfl : lo = hi := by omega
      by_cases hl2 : lo < len
      case pos =>
        have hri : rows[lo]? = some (rows[lo]'(by omega)) := List.getElem?_eq_getElem _
        generalize rows[lo]'(by omega) = r at hri
        obtain ⟨rfl, _, hbl, hrd⟩ := H3.out lo r hri
        obtain ⟨c0, cs0, rfl, k0, ht1⟩ := (ht_at _ _ _ HT.out hri).cons
        obtain ⟨c1, cs1, rfl, k1, ht2⟩ := ht1.cons
        obtain rfl := ht2.nil
        obtain ⟨nm, rfl⟩ := ht_str k0
        obtain ⟨vl, rfl⟩ := ht_str k1
        simp only [RdRow, Rd, and_true, exists_eq_right] at hrd
        obtain ⟨q0, q1⟩ := hrd
        have p0 := (hB.cell (p := ⟨b, o + lo * 2, none⟩) hbl).trans q0
        have p1 := (hB.cell (p := ⟨b, o + lo * 2 + 1, none⟩) hbl).trans q1
        have HB := Lib.hid hB
        clear hB q0 q1 k0 k1 ht1 ht2
        go_wp2_with fail
        refine (HC.out _ _ _ _).mono ?_
        rintro e w1 ⟨⟨n, rfl⟩, hb1⟩
        have hB2 := HB.out.trans (hb1.mono HB.out.size)
        clear hb1 p0 p1
        have HB2 := Lib.hid hB2
        clear hB2
        by_cases hn : n = 0
        case pos =>
          subst hn
          go_wp2_with fail
          go_ret2
          exact ⟨⟨lo, true, rfl, by omega, fun _ => hl2⟩, HB2.out⟩
        case neg =>
          have hn1 : (n == 0) = false := by simp [hn]
          go_wp2_with fail
          go_ret2
          exact ⟨⟨lo, false, rfl, by omega, by simp⟩, HB2.out⟩
      case neg =>
        obtain rfl : lo = len := by omega
        have HB := Lib.hid hB
        clear hB
        go_wp2_with fail
        go_ret2
        exact ⟨⟨lo, false, rfl, by omega, by simp⟩, HB.out⟩
set_option maxRecDepth 100000 in
/-- attrs.find. -/
theorem find_ok (F : Nat → Prop) (w : World) (v : Value) (s : ByteArray) (len cap : Nat) (rows : List (List C)) (hr : Rd F w (.sl 2 len cap rows) v) (ht : HtRows tab [.str, .str] rows) (hF : ∀ k, F k → k < w.heap.size) (hl : len ≤ 1099511627776) :
    Calls Tryz.prog 81 #[v, .string s] w fun e w' => (∃ (k : Nat) (f : Bool), e = .returned (.tuple #[.int .i64 k, .bool f]) ∧ k ≤ len ∧ (f = true → k < len)) ∧ Below w.heap.size w w' := by
  have hc := search_ok F w v s len cap rows hr ht hF hl
  obtain ⟨a, rfl⟩ : ∃ a, v = .slice a len cap := by have h := hr; simp only [Rd] at h; obtain ⟨a, h, _⟩ := h; exact ⟨a, h⟩
  have HC := Lib.hid hc
  clear hc hr ht hF
  go_enter Tryz.func81, Tryz.ntmps81
  go_wp2_with fail
  refine HC.out.mono ?_
  rintro e w1 ⟨⟨k, f, rfl, h1, h2⟩, hb⟩
  go_wp2_with fail
  go_ret2
  exact ⟨⟨k, f, rfl, h1, h2⟩, hb⟩
end Go.Proofs.YtomnkglnbmnmpaaGreatDoor
