/- tree: names, attributes, and the search in a list of numbers. -/
import Derived.Test.YtgkamgijnhbcbaaGreatDoorPart
import Derived.Test.YtgkamgijnhbcbaaGreatDoorProg
import Derived.WalkKit
import Derived.WalkSpells
import Derived.WalkLawsBesides
import Derived.Test.YtgkamgijnhbcbaaGreatDoorSeeAll
import Derived.Deep.QuietTactic
import Derived.BigQuiet
namespace Go.Proofs.YtgkamgijnhbcbaaGreatDoor
open Go.RowKit Go.Vt Go.Proofs
def smallB (c : Int) : Bool := (decide (97 ≤ c) && decide (c ≤ 122)) || (decide (48 ≤ c) && decide (c ≤ 57)) || decide (c = 45) || decide (c = 95) || decide (128 ≤ c)
theorem ret_bool {a b : Bool} (h : a = b) : Ending.returned (Value.bool a) = Ending.returned (Value.bool b) := by rw [h]
set_option maxRecDepth 100000 in
theorem small_ok (c : Int) (w : World) : Calls Tryz.prog 136 #[.int .u8 c] w fun e w' => e = .returned (.bool (smallB c)) ∧ w' = w := by
  go_enter Tryz.func136, Tryz.ntmps136
  go_wp2
  all_goals (go_ret; refine ⟨ret_bool ?_, rfl⟩; simp only [smallB]; rw [Bool.eq_iff_iff]; simp <;> omega)
def NamedP (s : ByteArray) : Prop := 1 ≤ s.size ∧ s.size ≤ 64 ∧ (∀ h : 0 < s.size, 97 ≤ (s[0].toNat : Int) ∧ (s[0].toNat : Int) ≤ 122) ∧ ∀ i (h : i < s.size), smallB s[i].toNat = true
def IsB (p : Prop) (e : Ending) : Prop := ∃ b, e = .returned (.bool b) ∧ (b = true ↔ p)
set_option maxRecDepth 100000 in
theorem named_ok (s : ByteArray) (w : World) : Calls Tryz.prog 96 #[.string s] w fun e w' => IsB (NamedP s) e ∧ w' = w := by
  have hs := Lib.hid small_ok
  go_enter Tryz.func96, Tryz.ntmps96
  go_wp2
  all_goals first
    | (go_ret; refine ⟨⟨false, rfl, ?_⟩, rfl⟩; refine ⟨fun h => by simp at h, fun h => ?_⟩; obtain ⟨h1, h2, h3, _⟩ := h; have h3 := h3 (by omega); omega)
    | skip
  go_loopw [24] (fun x24 wr => ∃ i : Nat, i ≤ s.size ∧ x24 = .int .i64 i ∧ wr = w ∧ ∀ j (h : j < s.size), j < i → smallB s[j].toNat = true) (fun x24 _ => s.size - (intOf x24).toNat)
  case atStart => exact ⟨0, by omega, rfl, rfl, fun j _ h => by omega⟩
  case round =>
    obtain ⟨i, hi, rfl, rfl, hall⟩ := hrel
    by_cases hlt : i < s.size
    · have HA := Lib.hid hall
      clear hall
      go_wp2_with fail
      refine (hs.out _ _).mono ?_
      rintro e w2 ⟨rfl, rfl⟩
      cases hb : smallB (s[i].toNat : Int) with
      | true =>
        go_wp2
        go_roundw
        case rel => exact ⟨i + 1, by omega, by go_num, by first | trivial | rfl, fun j h hj => by
          by_cases hji : j = i
          · subst hji; exact hb
          · exact HA.out j h (by omega)⟩
        case measure => simp [intOf]; omega
      | false =>
        go_wp2
        go_ret
        refine ⟨⟨false, rfl, fun h => by simp at h, fun h => ?_⟩, rfl⟩
        rw [h.2.2.2 i hlt] at hb; cases hb
    · obtain rfl : i = s.size := by omega
      have HA := Lib.hid hall
      clear hall
      go_wp2
      go_ret
      exact ⟨⟨true, rfl, fun _ => ⟨by omega, by omega, fun _ => by omega, fun j h => HA.out j h h⟩, fun _ => rfl⟩, rfl⟩
noncomputable def namedB (s : ByteArray) : Bool := @decide (NamedP s) (Classical.propDecidable _)
theorem namedB_iff (s : ByteArray) : namedB s = true ↔ NamedP s := by simp [namedB]
theorem named_is (s : ByteArray) (w : World) : Calls Tryz.prog 96 #[.string s] w fun e w' => e = .returned (.bool (namedB s)) ∧ w' = w :=
  (named_ok s w).mono fun e w' h => by
    obtain ⟨⟨b, rfl, hb⟩, rfl⟩ := h
    refine ⟨ret_bool ?_, rfl⟩
    rw [Bool.eq_iff_iff, hb, namedB_iff]
end Go.Proofs.YtgkamgijnhbcbaaGreatDoor
namespace Go.Proofs.YtgkamgijnhbcbaaGreatDoor
open Go.RowKit Go.Vt Go.Proofs
/-- Row i of a slice that reads as rows: its cells. -/
theorem row_at {F : Nat → Prop} {w : World} {v : Value} {sz len cap : Nat} {rows : List (List C)} (h : Rd F w (.sl sz len cap rows) v) (hF : ∀ k, F k → k < w.heap.size) : ∃ a b o, v = .slice a len cap ∧ len ≤ rows.length ∧ ∀ i r, rows[i]? = some r → a = some ⟨b, o, none⟩ ∧ F b ∧ b < w.heap.size ∧ RdRow F w b (o + i * sz) r := by
  simp only [Rd] at h
  obtain ⟨a, h1, h2, h3, h4⟩ := h
  rcases h4 with h4 | ⟨b, o, h5, h6, h7⟩
  · subst h4; exact ⟨a, 0, 0, h1, h2, fun i r hr => by simp at hr⟩
  · refine ⟨a, b, o, h1, h2, fun i r hr => ⟨h5, h6, hF b h6, ?_⟩⟩
    have : ∀ (rs : List (List C)) (o i : Nat) (r : List C), rs[i]? = some r → RdRows F w b sz o rs → RdRow F w b (o + i * sz) r := by
      intro rs
      induction rs with
      | nil => intro o i r hr; simp at hr
      | cons x xs ih =>
        intro o i r hr hrd
        simp only [RdRows] at hrd
        cases i with
        | zero => simp at hr; subst hr; simpa using hrd.1.2
        | succ i => have := ih (o + sz) i r (by simpa using hr) hrd.2; rw [Nat.succ_mul, show o + (i * sz + sz) = o + sz + i * sz from by omega]; exact this
    exact this rows o i r hr h7
theorem ht_at {tab : Nat → List CT} {ts : List CT} : ∀ (rows : List (List C)) (i : Nat) (r : List C), HtRows tab ts rows → rows[i]? = some r → HtRow tab ts r
  | [], i, r, _, h => by simp at h
  | x :: xs, 0, r, hh, h => by simp at h; subst h; simp only [HtRows] at hh; exact hh.1
  | x :: xs, i + 1, r, hh, h => by simp only [HtRows] at hh; exact ht_at xs i r hh.2 (by simpa using h)
theorem ht_str {tab : Nat → List CT} {c : C} (h : Ht tab .str c) : ∃ s, c = .str s := by
  cases c with
  | str s => exact ⟨s, rfl⟩
  | _ => simp [Ht] at h
set_option maxRecDepth 100000 in
theorem attributes_ok (tab : Nat → List CT) (F : Nat → Prop) (w : World) (v : Value) (len cap : Nat) (rows : List (List C)) (hr : Rd F w (.sl 2 len cap rows) v) (ht : HtRows tab [.str, .str] rows) (hF : ∀ k, F k → k < w.heap.size) (hl : len ≤ 1099511627776) :
    Calls Tryz.prog 97 #[v] w fun e w' => IsBool e ∧ Below w.heap.size w w' := by
  obtain ⟨a, b, o, rfl, h2, h3⟩ := row_at hr hF
  have H3 := Lib.hid h3
  have HT := Lib.hid ht
  clear hr h3 ht hF
  go_enter Tryz.func97, Tryz.ntmps97
  go_wp2
  go_loopw [7] (fun x7 wr => ∃ i : Nat, i ≤ len ∧ x7 = .int .i64 i ∧ Below w.heap.size w wr) (fun x7 _ => len - (intOf x7).toNat)
  case atStart => exact ⟨0, by omega, rfl, Below.refl _ _⟩
  case round =>
    obtain ⟨i, hi, rfl, hB⟩ := hrel
    by_cases hlt : i < len
    · have hri : rows[i]? = some (rows[i]'(by omega)) := List.getElem?_eq_getElem _
      generalize rows[i]'(by omega) = r at hri
      obtain ⟨rfl, _, hbl, hrd⟩ := H3.out i r hri
      obtain ⟨c0, cs0, rfl, k0, ht1⟩ := (ht_at _ _ _ HT.out hri).cons
      obtain ⟨c1, cs1, rfl, k1, ht2⟩ := ht1.cons
      obtain rfl := ht2.nil
      obtain ⟨nm, rfl⟩ := ht_str k0
      obtain ⟨vl, rfl⟩ := ht_str k1
      simp only [RdRow, Rd, and_true, exists_eq_right] at hrd
      obtain ⟨q0, q1⟩ := hrd
      have p0 := (hB.cell (p := ⟨b, o + i * 2, none⟩) hbl).trans q0
      have p1 := (hB.cell (p := ⟨b, o + i * 2 + 1, none⟩) hbl).trans q1
      have HB := Lib.hid hB
      clear hB q0 q1 k0 k1 ht1 ht2
      go_wp2_with fail
      have hnm : ∀ w, Calls Tryz.prog 96 #[.string nm] w fun e w' => e = .returned (.bool (namedB nm)) ∧ w' = w := named_is nm
      have HB2 : Below w.heap.size w (wr.alloc (Obj.cells #[Value.string nm, Value.string vl] 201)) := HB.out.alloc HB.out.size _
      have HB3 := Lib.hid HB2
      clear HB2
      cases hb : namedB nm with
      | false =>
        rw [hb] at hnm
        have HNM := Lib.hid hnm
        clear hnm
        go_quiet ((go_at_call 96; refine Calls.quiet_of_same (HNM.out _)))
        go_wp2
        go_ret
        exact ⟨⟨_, rfl⟩, below_drewN HB3.out _⟩
      | true =>
        rw [hb] at hnm
        have HNM := Lib.hid hnm
        clear hnm
        by_cases hv : 400 < vl.size
        · have hv1 : (400 : Int) < (vl.size : Int) := by omega
          go_quiet ((go_at_call 96; refine Calls.quiet_of_same (HNM.out _)))
          go_wp2
          go_ret
          exact ⟨⟨_, rfl⟩, below_drewN HB3.out _⟩
        · have hv1 : decide ((400 : Int) < (vl.size : Int)) = false := by simp; omega
          by_cases h0 : i = 0
          · subst h0
            go_quiet ((go_at_call 96; refine Calls.quiet_of_same (HNM.out _)))
            go_wp2
            go_roundw
            case rel => exact ⟨1, by omega, by go_num, below_drewN HB3.out _⟩
            case measure => simp [intOf]; omega
          · obtain ⟨j, hj⟩ : ∃ j, i = j + 1 := ⟨i - 1, by omega⟩
            have hrj : rows[j]? = some (rows[j]'(by omega)) := List.getElem?_eq_getElem _
            generalize rows[j]'(by omega) = r at hrj
            obtain ⟨_, _, _, hrd⟩ := H3.out j r hrj
            obtain ⟨c0, cs0, rfl, k0, ht1⟩ := (ht_at _ _ _ HT.out hrj).cons
            obtain ⟨nj, rfl⟩ := ht_str k0
            simp only [RdRow, Rd, exists_eq_right] at hrd
            have pj := (HB3.out.cell (p := ⟨b, o + j * 2, none⟩) hbl).trans hrd.1
            have hj0 : 0 < i := by omega
            have hj4 : decide (0 < i) = true := by simp [hj0]
            have hj1 : (i : Int) - 1 = (j : Int) := by omega
            have hj2 : (j : Int) < (len : Int) := by omega
            have hj3 : (0 : Int) ≤ (j : Int) := by omega
            clear hrd ht1 k0 hrj hj h0
            go_quiet ((go_at_call 96; refine Calls.quiet_of_same (HNM.out _)))
            go_wp2
            all_goals first
              | (go_ret; exact ⟨⟨_, rfl⟩, below_drewN HB3.out _⟩)
              | (go_roundw
                 case rel => exact ⟨i + 1, by omega, by go_num, below_drewN HB3.out _⟩
                 case measure => simp [intOf]; omega)
    · obtain rfl : i = len := by omega
      have HB := Lib.hid hB
      clear hB
      go_wp2
      go_ret
      exact ⟨⟨_, rfl⟩, HB.out⟩
end Go.Proofs.YtgkamgijnhbcbaaGreatDoor
namespace Go.Proofs.YtgkamgijnhbcbaaGreatDoor
open Go.RowKit Go.Vt Go.Proofs
theorem ht_int {tab : Nat → List CT} {k : IntKind} {c : C} (h : Ht tab (.int k) c) : ∃ n, c = .int k n := by
  cases c with
  | int k' n => simp only [Ht] at h; obtain ⟨h1, _⟩ := h; injection h1 with h1; subst h1; exact ⟨n, rfl⟩
  | _ => simp [Ht] at h
set_option maxRecDepth 100000 in
theorem index_ok (tab : Nat → List CT) (F : Nat → Prop) (w : World) (v : Value) (x : Int) (len cap : Nat) (rows : List (List C)) (hr : Rd F w (.sl 1 len cap rows) v) (ht : HtRows tab [.int .i64] rows) (hF : ∀ k, F k → k < w.heap.size) (hl : len ≤ 1099511627776) :
    Calls Tryz.prog 84 #[v, .int .i64 x] w fun e w' => (∃ n, e = .returned (.int .i64 n)) ∧ w' = w := by
  obtain ⟨a, b, o, rfl, h2, h3⟩ := row_at hr hF
  have H3 := Lib.hid h3
  have HT := Lib.hid ht
  clear hr h3 ht hF
  go_enter Tryz.func84, Tryz.ntmps84
  go_wp2
  go_loopw [8] (fun x8 wr => ∃ i : Nat, i ≤ len ∧ x8 = .int .i64 i ∧ wr = w) (fun x8 _ => len - (intOf x8).toNat)
  case atStart => exact ⟨0, by omega, rfl, rfl⟩
  case round =>
    obtain ⟨i, hi, rfl, rfl⟩ := hrel
    by_cases hlt : i < len
    · have hri : rows[i]? = some (rows[i]'(by omega)) := List.getElem?_eq_getElem _
      generalize rows[i]'(by omega) = r at hri
      obtain ⟨rfl, _, hbl, hrd⟩ := H3.out i r hri
      obtain ⟨c0, cs0, rfl, k0, ht1⟩ := (ht_at _ _ _ HT.out hri).cons
      obtain ⟨y, rfl⟩ := ht_int k0
      simp only [RdRow, Rd, exists_eq_right, Nat.mul_one] at hrd
      have p0 := hrd.1
      clear hrd k0 ht1
      go_wp2
      all_goals first
        | (go_ret; exact ⟨⟨_, rfl⟩, rfl⟩)
        | (go_roundw
           case rel => exact ⟨i + 1, by omega, by go_num, by first | trivial | rfl⟩
           case measure => simp [intOf]; omega)
    · obtain rfl : i = len := by omega
      go_wp2
      go_ret
      exact ⟨⟨_, rfl⟩, rfl⟩
set_option maxRecDepth 100000 in
theorem contains_ok (tab : Nat → List CT) (F : Nat → Prop) (w : World) (v : Value) (x : Int) (len cap : Nat) (rows : List (List C)) (hr : Rd F w (.sl 1 len cap rows) v) (ht : HtRows tab [.int .i64] rows) (hF : ∀ k, F k → k < w.heap.size) (hl : len ≤ 1099511627776) :
    Calls Tryz.prog 137 #[v, .int .i64 x] w fun e w' => IsBool e ∧ w' = w := by
  have hc := Lib.hid (index_ok tab F w v x len cap rows hr ht hF hl)
  obtain ⟨a, b, o, rfl, h2, h3⟩ := row_at hr hF
  clear hr ht hF h3
  go_enter Tryz.func137, Tryz.ntmps137
  go_wp2_with fail
  refine hc.out.mono ?_
  rintro e w2 ⟨⟨n, rfl⟩, rfl⟩
  go_wp2
  go_ret
  exact ⟨⟨_, rfl⟩, rfl⟩
end Go.Proofs.YtgkamgijnhbcbaaGreatDoor
