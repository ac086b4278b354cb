/- anb.Check and In; package nth: it answers in new memory and leaves the memory. -/
import Derived.Test.YtgkamgijnhbcbaaGreatDoorAbove
import Derived.Test.YtgkamgijnhbcbaaGreatDoorNumbers
import Derived.WalkKit
import Derived.WalkSpells
import Derived.WalkLawsBesides
import Derived.Deep.AppendLies
import Derived.Test.YtgkamgijnhbcbaaGreatDoorCheck2
import Derived.Test.YtgkamgijnhbcbaaGreatDoorGen
import Derived.Deep.RegionWith
import Derived.RegionTactic
namespace Go.Proofs.YtgkamgijnhbcbaaGreatDoor
open Go.RowKit Go.Vt Go.Proofs
/-- It answers a number. -/
def IsNum (e : Ending) : Prop := ∃ n : Int, e = .returned (.int .i64 n)
set_option maxRecDepth 100000 in
/-- anb.within. -/
theorem within_ok (n : Int) (w : World) : Calls Tryz.prog 94 #[.int .i64 n] w fun e w' => IsBool e ∧ w' = w := by
  go_enter Tryz.func94, Tryz.ntmps94
  by_cases h : (-1000000000 : Int) ≤ n
  · go_wp2_with fail
    go_ret
    exact ⟨⟨_, rfl⟩, rfl⟩
  · go_wp2_with fail
    go_ret
    exact ⟨⟨_, rfl⟩, rfl⟩
set_option maxRecDepth 100000 in
/-- anb.Check. -/
theorem anbCheck_ok (x y : Int) (w : World) : Calls Tryz.prog 67 #[.agg #[.int .i64 x, .int .i64 y]] w fun e w' => IsNum e ∧ Below w.heap.size w w' := by
  go_enter Tryz.func67, Tryz.ntmps67
  go_wp2_with fail
  refine (within_ok _ _).mono ?_
  rintro e w1 ⟨⟨b, rfl⟩, rfl⟩
  cases b with
  | false =>
    go_wp2_with fail
    go_ret
    exact ⟨⟨_, rfl⟩, (Below.refl _ _).alloc (Nat.le_refl _) _⟩
  | true =>
    go_wp2_with fail
    refine (within_ok _ _).mono ?_
    rintro e w1 ⟨⟨b, rfl⟩, rfl⟩
    cases b with
    | false =>
      go_wp2_with fail
      go_ret
      exact ⟨⟨_, rfl⟩, (Below.refl _ _).alloc (Nat.le_refl _) _⟩
    | true =>
      go_wp2_with fail
      go_ret
      exact ⟨⟨_, rfl⟩, (Below.refl _ _).alloc (Nat.le_refl _) _⟩
set_option maxRecDepth 100000 in
/-- anb.has. -/
theorem anbHas_ok (x y p : Int) (w : World) : Calls Tryz.prog 135 #[.agg #[.int .i64 x, .int .i64 y], .int .i64 p] w fun e w' => IsBool e ∧ Below w.heap.size w w' := by
  go_enter Tryz.func135, Tryz.ntmps135
  by_cases h1 : 0 < x
  · have hx : x ≠ 0 := by omega
    go_wp2_with fail
    all_goals go_ret
    all_goals exact ⟨⟨_, rfl⟩, (Below.refl _ _).alloc (Nat.le_refl _) _⟩
  · have h1' : decide (0 < x) = false := by simp; omega
    by_cases h3 : x < 0
    · have hx : x ≠ 0 := by omega
      go_wp2_with fail
      all_goals go_ret
      all_goals exact ⟨⟨_, rfl⟩, (Below.refl _ _).alloc (Nat.le_refl _) _⟩
    · have h3' : decide (x < 0) = false := by simp; omega
      go_wp2_with fail
      go_ret
      exact ⟨⟨_, rfl⟩, (Below.refl _ _).alloc (Nat.le_refl _) _⟩
set_option maxRecDepth 100000 in
/-- anb.In. -/
theorem anbIn_ok (x y p : Int) (w : World) : Calls Tryz.prog 95 #[.agg #[.int .i64 x, .int .i64 y], .int .i64 p] w fun e w' => (∃ (b : Bool) (n : Int), e = .returned (.tuple #[.bool b, .int .i64 n])) ∧ Below w.heap.size w w' := by
  go_enter Tryz.func95, Tryz.ntmps95
  go_wp2_with fail
  obtain ⟨W, hW⟩ : ∃ W, W = w.alloc (Obj.cells #[.int .i64 x, .int .i64 y] 54) := ⟨_, rfl⟩
  have hb : Below w.heap.size w W := by rw [hW]; exact (Below.refl _ _).alloc (Nat.le_refl _) _
  have x0 : W.heap[w.heap.size]? = some (.cells #[.int .i64 x, .int .i64 y] 54 (0, 0)) := by rw [hW]; exact heap_alloc_new w _
  have s0 : W.heap.size = w.heap.size + 1 := by rw [hW, alloc_size]
  have HW := Lib.hid hW
  have HB := Lib.hid hb
  have HX := Lib.hid (And.intro x0 s0)
  clear hW hb x0 s0
  rw [← HW.out]
  refine (anbCheck_ok _ _ _).mono ?_
  rintro e w1 ⟨⟨n, rfl⟩, hb1⟩
  have hb2 := HB.out.trans (hb1.mono HB.out.size)
  have x1 : w1.heap[w.heap.size]? = some (.cells #[.int .i64 x, .int .i64 y] 54 (0, 0)) := (hb1.block _ (by have := HX.out.2; omega)).trans HX.out.1
  have c0 : w1.cell? ⟨w.heap.size, 0, none⟩ = some (.int .i64 x) := cell_of_row _ _ 0 _ _ _ x1
  have c1 : w1.cell? ⟨w.heap.size, 1, none⟩ = some (.int .i64 y) := cell_of_row _ _ 1 _ _ _ x1
  have HB2 := Lib.hid hb2
  clear hb1 hb2 x1
  by_cases hn : n = 0
  case neg =>
    have hn1 : (n != 0) = true := by simp [hn]
    go_wp2_with fail
    go_ret2
    exact ⟨⟨_, _, rfl⟩, HB2.out⟩
  case pos =>
    subst hn
    by_cases h1 : p < 1
    · go_wp2_with fail
      go_ret2
      exact ⟨⟨_, _, rfl⟩, HB2.out⟩
    · have h1' : decide (p < 1) = false := by simp; omega
      by_cases h2 : (1000000000 : Int) < p
      · go_wp2_with fail
        go_ret2
        exact ⟨⟨_, _, rfl⟩, HB2.out⟩
      · have h2' : decide ((1000000000 : Int) < p) = false := by simp; omega
        go_wp2_with fail
        refine (anbHas_ok _ _ _ _).mono ?_
        rintro e w2 ⟨⟨b, rfl⟩, hb3⟩
        go_wp2_with fail
        go_ret2
        exact ⟨⟨_, _, rfl⟩, HB2.out.trans (hb3.mono HB2.out.size)⟩
end Go.Proofs.YtgkamgijnhbcbaaGreatDoor
namespace Go.Proofs.YtgkamgijnhbcbaaGreatDoor
open Go.RowKit Go.Vt Go.Proofs
theorem ht_bool {c : C} (h : Ht tab .bool c) : ∃ b, c = .bool b := by
  cases c <;> simp [Ht] at h ⊢
/-- A list of bools, cell by cell. -/
theorem bool_at {F : Nat → Prop} {w : World} {ai : Option Addr} {li ci : Nat} {bs : List (List C)} (hbs : Rd F w (.sl 1 li ci bs) (.slice ai li ci)) (htb : HtRows tab [.bool] bs) (hF : ∀ k, F k → k < w.heap.size) :
    ∃ b o, ∀ j, j < li → ai = some ⟨b, o, none⟩ ∧ b < w.heap.size ∧ ∃ q : Bool, w.cell? ⟨b, o + j, none⟩ = some (.bool q) := by
  obtain ⟨a, b, o, e1, h2, h3⟩ := row_at hbs hF
  refine ⟨b, o, fun j hj => ?_⟩
  have hrj : bs[j]? = some (bs[j]'(by omega)) := List.getElem?_eq_getElem _
  generalize bs[j]'(by omega) = r at hrj
  obtain ⟨e2, _, hbl, hrd⟩ := h3 j r hrj
  obtain ⟨c0, cs0, rfl, k0, kn⟩ := (ht_at _ _ _ htb hrj).cons
  obtain rfl := kn.nil
  obtain ⟨q, rfl⟩ := ht_bool k0
  simp only [RdRow, Rd, exists_eq_right, Nat.mul_one, and_true] at hrd
  injection e1 with e1
  exact ⟨e1.trans e2, hbl, q, hrd⟩
/-- A node's children, cell by cell. -/
theorem kid_at {F : Nat → Prop} {w : World} {ac : Option Addr} {lc cc pn len : Nat} {rows rc : List (List C)} {c0 c1 c2 : C} (hrp : rows[pn]? = some [c0, c1, c2, .sl 1 lc cc rc]) (hr : Rd F w (.sl 1 lc cc rc) (.slice ac lc cc)) (ht : HtRows tab [.int .i64] rc) (hF : ∀ k, F k → k < w.heap.size) (hk : Kin rows len pn) :
    ∃ b o, ∀ j, j < lc → ac = some ⟨b, o, none⟩ ∧ b < w.heap.size ∧ ∃ y : Nat, y < len ∧ w.cell? ⟨b, o + j, none⟩ = some (.int .i64 y) := by
  obtain ⟨a, b, o, e1, h2, h3⟩ := row_at hr hF
  refine ⟨b, o, fun j hj => ?_⟩
  have hrj : rc[j]? = some (rc[j]'(by omega)) := List.getElem?_eq_getElem _
  generalize rc[j]'(by omega) = r at hrj
  obtain ⟨e2, _, hbl, hrd⟩ := h3 j r hrj
  obtain ⟨d0, cs0, rfl, k0, kn⟩ := (ht_at _ _ _ ht hrj).cons
  obtain rfl := kn.nil
  obtain ⟨y, rfl⟩ := ht_int k0
  have hm : y ∈ kids rows pn := by rw [kids_is hrp]; exact List.mem_of_getElem? (kidOf_at hrj hj)
  obtain ⟨y0, y1, _⟩ := hk.ok y hm
  obtain ⟨yn, rfl⟩ := Int.eq_ofNat_of_zero_le y0
  simp only [RdRow, Rd, exists_eq_right, Nat.mul_one, and_true] at hrd
  injection e1 with e1
  exact ⟨e1.trans e2, hbl, yn, by omega, hrd⟩
set_option maxRecDepth 100000 in
set_option maxHeartbeats 1000000 in
/-- nth.check. -/
theorem nthCheck_ok (F : Nat → Prop) (w : World) (a ai : Option Addr) (len cap li ci : Nat) (rows : List (List C)) (hr : Rd F w (.sl 4 len cap rows) (.slice a len cap)) (ht : HtRows tab [.str, .sl 201, .int .i64, .sl 3] rows) (hF : ∀ k, F k → k < w.heap.size) (hnn : nodesRows rows ≤ 1099511627776) :
    Calls Tryz.prog 65 #[.agg #[.slice a len cap], .slice ai li ci] w fun e w' => (∃ n : Int, e = .returned (.int .i64 n) ∧ (n = 0 → Good2 rows len ∧ li = len)) ∧ Below w.heap.size w w' := by
  obtain ⟨W, hW⟩ : ∃ W, W = w.alloc (Obj.cells #[.slice a len cap] 24) := ⟨_, rfl⟩
  have hb : Below w.heap.size w W := by rw [hW]; exact (Below.refl _ _).alloc (Nat.le_refl _) _
  have s1 : W.heap.size = w.heap.size + 1 := by rw [hW, alloc_size]
  have x1 : W.heap[w.heap.size]? = some (.cells #[.slice a len cap] 24 (0, 0)) := by rw [hW]; exact heap_alloc_new w _
  have hc := check2_ok F W (.slice a len cap) len cap rows (Rd.mono (fun k hk => ⟨hk, hb.block k (hF k hk)⟩) _ _ hr) ht (fun k hk => Nat.lt_of_lt_of_le (hF k hk) hb.size) hnn
  have HC := Lib.hid hc
  have HW := Lib.hid hW
  have HB := Lib.hid hb
  have HX := Lib.hid (And.intro x1 s1)
  clear hc hW hb hr ht hF x1 s1
  go_enter Tryz.func65, Tryz.ntmps65
  go_wp2_with fail
  rw [← HW.out]
  refine HC.out.mono ?_
  rintro e w1 ⟨⟨n, rfl, hn⟩, hb1⟩
  have HN := Lib.hid hn
  have hb2 := HB.out.trans (hb1.mono HB.out.size)
  have x2 : w1.heap[w.heap.size]? = some (.cells #[.slice a len cap] 24 (0, 0)) := (hb1.block _ (by have := HX.out.2; omega)).trans HX.out.1
  have c1 : w1.cell? ⟨w.heap.size, 0, none⟩ = some (.slice a len cap) := cell_of_row _ _ 0 _ _ _ x2
  have HB2 := Lib.hid hb2
  clear hn hb1 hb2 x2
  by_cases hn0 : n = 0
  case neg =>
    have hn1 : (n != 0) = true := by simp [hn0]
    go_wp2_with fail
    go_ret
    exact ⟨⟨_, rfl, fun h => absurd h hn0⟩, HB2.out⟩
  case pos =>
    subst hn0
    by_cases hl : li = len
    · subst hl
      go_wp2_with fail
      go_ret
      exact ⟨⟨_, rfl, fun _ => by first | exact HN.out (by first | trivial | rfl) | exact ⟨HN.out (by first | trivial | rfl), rfl⟩⟩, HB2.out⟩
    · have hl1 : ((li : Int) != (len : Int)) = true := by simp; omega
      go_wp2_with fail
      go_ret
      exact ⟨⟨_, rfl, fun h => by cases h⟩, HB2.out⟩
set_option maxRecDepth 100000 in
set_option maxHeartbeats 4000000 in
/-- nth.place. -/
theorem nthPlace_ok (F : Nat → Prop) (w : World) (a ai : Option Addr) (i : Nat) (last : Bool) (len cap li ci : Nat) (rows bs : List (List C)) (hr : Rd F w (.sl 4 len cap rows) (.slice a len cap)) (ht : HtRows tab [.str, .sl 201, .int .i64, .sl 3] rows) (hF : ∀ k, F k → k < w.heap.size) (hnn : nodesRows rows ≤ 1099511627776) (hG : Good2 rows len) (hi : i < len) (hbs : Rd F w (.sl 1 li ci bs) (.slice ai li ci)) (htb : HtRows tab [.bool] bs) (hli : li = len) :
    Calls Tryz.prog 66 #[.agg #[.slice a len cap], .int .i64 i, .bool last, .slice ai li ci] w fun e w' => IsNum e ∧ Below w.heap.size w w' := by
  subst hli
  obtain ⟨a0, b, o, ha0, h2, h3⟩ := row_at hr hF
  obtain rfl : a = a0 := by injection ha0 with ha0
  obtain ⟨bb, ob, hq⟩ := bool_at hbs htb hF
  obtain ⟨rfl, hbb, q, qi⟩ := hq i hi
  have hri : rows[i]? = some (rows[i]'(by omega)) := List.getElem?_eq_getElem _
  generalize rows[i]'(by omega) = r at hri
  obtain ⟨rfl, _, hbl, hrd⟩ := h3 i r hri
  obtain ⟨_, _, _, _, _, p, _, _, _, _, rfl, _, _, _, _, _, _, n2, _⟩ := node_at hri ht hrd
  have hkn := hG.kn i hi
  have hpr := par_is hri
  have hp1 := hkn.lo
  have hp2 := hkn.hi
  rw [hpr] at hp1 hp2
  have hb : Below w.heap.size w (w.alloc (Obj.cells #[.slice (some ⟨b, o, none⟩) li cap] 24)) := (Below.refl _ _).alloc (Nat.le_refl _) _
  have qi' := (hb.cell (p := ⟨bb, ob + i, none⟩) hbb).trans qi
  have pi' := (hb.cell (p := ⟨b, o + i * 4 + 2, none⟩) hbl).trans n2
  have HB := Lib.hid hb
  have HQ := Lib.hid hq
  have H3 := Lib.hid h3
  have HT := Lib.hid ht
  have HF := Lib.hid hF
  have HG := Lib.hid hG
  clear hb hq h3 ht hF hr hG hbs htb hrd n2 qi hkn hpr hri
  go_enter Tryz.func66, Tryz.ntmps66
  cases q with
  | false =>
    go_wp2_with fail
    go_ret
    exact ⟨⟨_, rfl⟩, HB.out⟩
  | true =>
    rcases Int.lt_or_le p 0 with hneg | hpos
    · go_wp2_with fail
      go_ret
      exact ⟨⟨_, rfl⟩, HB.out⟩
    · obtain ⟨pn, rfl⟩ := Int.eq_ofNat_of_zero_le hpos
      have hpd : decide ((pn : Int) < 0) = false := by simp <;> omega
      have hrp : rows[pn]? = some (rows[pn]'(by omega)) := List.getElem?_eq_getElem _
      generalize rows[pn]'(by omega) = rp at hrp
      obtain ⟨_, _, hblp, hrdp⟩ := H3.out pn rp hrp
      obtain ⟨_, _, _, _, _, _, ac, lc, cc, rc, rfl, _, _, hrc, htc, _, _, _, n3⟩ := node_at hrp HT.out hrdp
      have hlc := kids_le hrp hrc hnn
      have hkid := kid_at hrp hrc htc HF.out (HG.out.kn pn (by omega))
      have p3' := (HB.out.cell (p := ⟨b, o + pn * 4 + 3, none⟩) hbl).trans n3
      obtain ⟨bk, ok, hkid⟩ := hkid
      have HK := Lib.hid hkid
      clear hkid hrc htc n3 hrdp hrp
      go_wp2_with fail
      go_loopw [10, 11, 35] (fun x10 x11 x35 wr => ∃ (n : Int) (bh : Bool) (k : Nat), k ≤ lc ∧ x10 = .int .i64 n ∧ x11 = .bool bh ∧ x35 = .int .i64 k ∧ Below w.heap.size w wr) (fun _ _ x35 _ => lc - (intOf x35).toNat)
      case atStart => exact ⟨0, false, 0, by omega, rfl, rfl, rfl, HB.out⟩
      case round =>
        obtain ⟨n, bh, k, hk, rfl, rfl, rfl, hBr⟩ := hrel
        by_cases hlt : k < lc
        · obtain ⟨rfl, hbk, y, hy, hcy⟩ := HK.out k hlt
          obtain ⟨_, _, qy, hqy⟩ := HQ.out y hy
          have cy := (hBr.cell (p := ⟨bk, ok + k, none⟩) hbk).trans hcy
          have cq := (hBr.cell (p := ⟨bb, ob + y, none⟩) hbb).trans hqy
          have HBR := Lib.hid hBr
          clear hBr hcy hqy
          have fin : ∀ n' : Int, ∀ bh' : Bool, (∃ (n : Int) (bh : Bool) (k_1 : Nat), k_1 ≤ lc ∧ Value.int .i64 n' = .int .i64 n ∧ Value.bool bh' = .bool bh ∧ Value.int .i64 ((k : Int) + 1) = .int .i64 k_1 ∧ Below w.heap.size w wr) := fun n' bh' => ⟨n', bh', k + 1, by omega, rfl, rfl, by simp, HBR.out⟩
          by_cases hyi : y = i
          · subst hyi
            cases last <;> cases qy <;> cases bh
            all_goals go_wp2_with fail
            all_goals exact ⟨fin _ _, by simp [intOf]; omega⟩
          · have hyi2 : ((y : Int) == (i : Int)) = false := by simp; omega
            clear hyi
            cases last <;> cases qy <;> cases bh
            all_goals go_wp2_with fail
            all_goals exact ⟨fin _ _, by simp [intOf]; omega⟩
        · obtain rfl : k = lc := by omega
          have HBR := Lib.hid hBr
          clear hBr
          go_wp2_with fail
          go_ret
          exact ⟨⟨_, rfl⟩, HBR.out⟩
end Go.Proofs.YtgkamgijnhbcbaaGreatDoor
namespace Go.Proofs.YtgkamgijnhbcbaaGreatDoor
open Go.RowKit Go.Vt Go.Proofs
theorem mk28 (t : Nat → Value) : mk 28 t = (t 0 :: t 1 :: t 2 :: t 3 :: t 4 :: t 5 :: t 6 :: t 7 :: t 8 :: t 9 :: t 10 :: t 11 :: t 12 :: t 13 :: t 14 :: t 15 :: t 16 :: t 17 :: t 18 :: t 19 :: t 20 :: t 21 :: t 22 :: t 23 :: t 24 :: t 25 :: t 26 :: t 27 :: []).toArray := rfl

set_option maxRecDepth 100000 in
set_option maxHeartbeats 4000000 in
/-- nth.match. -/
theorem nthMatch_ok (F : Nat → Prop) (w : World) (a ai : Option Addr) (i : Nat) (x y : Int) (last : Bool) (len cap li ci : Nat) (rows bs : List (List C)) (hr : Rd F w (.sl 4 len cap rows) (.slice a len cap)) (ht : HtRows tab [.str, .sl 201, .int .i64, .sl 3] rows) (hF : ∀ k, F k → k < w.heap.size) (hnn : nodesRows rows ≤ 1099511627776) (hG : Good2 rows len) (hi : i < len) (hbs : Rd F w (.sl 1 li ci bs) (.slice ai li ci)) (htb : HtRows tab [.bool] bs) (hli : li = len) :
    Calls Tryz.prog 68 #[.agg #[.slice a len cap], .int .i64 i, .agg #[.int .i64 x, .int .i64 y], .bool last, .slice ai li ci] w fun e w' => IsBool e ∧ Below w.heap.size w w' := by
  have b1 : Below w.heap.size w (w.alloc (Obj.cells #[.slice a len cap] 24)) := (Below.refl _ _).alloc (Nat.le_refl _) _
  have hb : Below w.heap.size w ((w.alloc (Obj.cells #[.slice a len cap] 24)).alloc (Obj.cells #[.int .i64 x, .int .i64 y] 54)) := b1.alloc b1.size _
  have x1 : ((w.alloc (Obj.cells #[.slice a len cap] 24)).alloc (Obj.cells #[.int .i64 x, .int .i64 y] 54)).heap[w.heap.size + 1]? = some (.cells #[.int .i64 x, .int .i64 y] 54 (0, 0)) := by
    have := heap_alloc_new (w.alloc (Obj.cells #[.slice a len cap] 24)) (Obj.cells #[.int .i64 x, .int .i64 y] 54); rwa [alloc_size] at this
  have x0 : ((w.alloc (Obj.cells #[.slice a len cap] 24)).alloc (Obj.cells #[.int .i64 x, .int .i64 y] 54)).heap[w.heap.size]? = some (.cells #[.slice a len cap] 24 (0, 0)) := (Below.heap_alloc _ _ _ (by rw [alloc_size]; omega)).trans (heap_alloc_new w _)
  have hp : ∀ V, Below w.heap.size w V → V.heap[w.heap.size]? = some (.cells #[.slice a len cap] 24 (0, 0)) → V.heap[w.heap.size + 1]? = some (.cells #[.int .i64 x, .int .i64 y] 54 (0, 0)) → Calls Tryz.prog 66 #[.agg #[.slice a len cap], .int .i64 i, .bool last, .slice ai li ci] V fun e w' => (∃ n : Int, e = .returned (.int .i64 n)) ∧ Below w.heap.size w w' ∧ w'.heap[w.heap.size]? = some (.cells #[.slice a len cap] 24 (0, 0)) ∧ w'.heap[w.heap.size + 1]? = some (.cells #[.int .i64 x, .int .i64 y] 54 (0, 0)) := fun V hV hx hy => by
    refine (nthPlace_ok F V a ai i last len cap li ci rows bs (Rd.mono (fun k hk => ⟨hk, hV.block k (hF k hk)⟩) _ _ hr) ht (fun k hk => Nat.lt_of_lt_of_le (hF k hk) hV.size) hnn hG hi (Rd.mono (fun k hk => ⟨hk, hV.block k (hF k hk)⟩) _ _ hbs) htb hli).mono ?_
    rintro e w' ⟨h1, h2⟩
    exact ⟨h1, hV.trans (h2.mono hV.size), (h2.block _ (Array.getElem?_eq_some_iff.1 hx).1).trans hx, (h2.block _ (Array.getElem?_eq_some_iff.1 hy).1).trans hy⟩
  have hn : ∀ V (p : Int), Below w.heap.size w V → V.heap[w.heap.size]? = some (.cells #[.slice a len cap] 24 (0, 0)) → V.heap[w.heap.size + 1]? = some (.cells #[.int .i64 x, .int .i64 y] 54 (0, 0)) → Calls Tryz.prog 95 #[.agg #[.int .i64 x, .int .i64 y], .int .i64 p] V fun e w' => (∃ (b : Bool) (n : Int), e = .returned (.tuple #[.bool b, .int .i64 n])) ∧ Below w.heap.size w w' ∧ w'.heap[w.heap.size]? = some (.cells #[.slice a len cap] 24 (0, 0)) ∧ w'.heap[w.heap.size + 1]? = some (.cells #[.int .i64 x, .int .i64 y] 54 (0, 0)) := fun V p hV hx hy => by
    refine (anbIn_ok x y p V).mono ?_
    rintro e w' ⟨h1, h2⟩
    exact ⟨h1, hV.trans (h2.mono hV.size), (h2.block _ (Array.getElem?_eq_some_iff.1 hx).1).trans hx, (h2.block _ (Array.getElem?_eq_some_iff.1 hy).1).trans hy⟩
  have HP := Lib.hid hp
  have HN := Lib.hid hn
  have HB := Lib.hid hb
  have HX := Lib.hid (And.intro x0 x1)
  clear hp hn hb b1 x0 x1 hr ht hF hG hbs htb hli hi hnn
  go_enter Tryz.func68, Tryz.ntmps68
  go_wp2_with fail
  refine wp_region_plan [14, 15, 16, 17, 18, 19, 20, 13, 21, 22, 11, 12] 28 (fun (L : Nat → Bool) (t : Nat → Value) (W : World) => Below w.heap.size w W ∧ W.heap[w.heap.size]? = some (.cells #[.slice a len cap] 24 (0, 0)) ∧ W.heap[w.heap.size + 1]? = some (.cells #[.int .i64 x, .int .i64 y] 54 (0, 0)) ∧ (L 0 = true → t 14 = .agg #[.int .i64 x, .int .i64 y]) ∧ (L 1 = true → t 15 = .agg #[.slice a len cap]) ∧ (L 2 = true → t 16 = .int .i64 i) ∧ (L 3 = true → t 17 = .bool last) ∧ (L 4 = true → t 18 = .slice ai li ci) ∧ (L 5 = true → ∃ n : Int, t 19 = .int .i64 n) ∧ (L 6 = true → ∃ (q : Bool) (m : Int), t 20 = .tuple #[.bool q, .int .i64 m]) ∧ (L 7 = true → ∃ (q : Bool) (m : Int), t 13 = .tuple #[.bool q, .int .i64 m]) ∧ (L 8 = true → ∃ q : Bool, t 21 = .bool q) ∧ (L 9 = true → ∃ m : Int, t 22 = .int .i64 m) ∧ (L 10 = true → ∃ q : Bool, t 11 = .bool q) ∧ (L 11 = true → ∃ m : Int, t 12 = .int .i64 m)) (by kernel_rfl) (by kernel_rfl) rfl ?start ?steps ?last
  case start => exact ⟨below_drew HB.out, HX.out.1, HX.out.2, fun g => by simp at g, fun g => by simp at g, fun g => by simp at g, fun g => by simp at g, fun g => by simp at g, fun g => by simp at g, fun g => by simp at g, fun g => by simp at g, fun g => by simp at g, fun g => by simp at g, fun g => by simp at g, fun g => by simp at g⟩
  case steps =>
    refine .cons (j := 1) rfl ?_ (.cons (j := 2) rfl ?_ (.cons (j := 3) rfl ?_ (.cons (j := 4) rfl ?_ (.cons (j := 5) rfl ?_ (.cons (j := 6) rfl ?_ (.cons (j := 7) rfl ?_ (.cons (j := 8) rfl ?_ (.cons (j := 9) rfl ?_ (.cons (j := 10) rfl ?_ (.cons (j := 11) rfl ?_ (.cons (j := 12) rfl ?_ (.nil))))))))))))
    · rintro L t W ⟨hU, sB, sX, sY, h0, h1, h2, h3, h4, h5, h6, h7, h8, h9, h10, h11⟩ hi hd R hR
      have b7 : t 7 = .pointer (some ⟨w.heap.size + 1, 0, none⟩) := hU 7 (by decide)
      have c0 : W.cell? ⟨w.heap.size + 1, 0, none⟩ = some (.int .i64 x) := cell_of_row _ _ 0 _ _ _ sY
      have c1 : W.cell? ⟨w.heap.size + 1, 1, none⟩ = some (.int .i64 y) := cell_of_row _ _ 1 _ _ _ sY
      have HR := Lib.hid hR
      clear hR
      rw [mk28]
      go_wp2_with fail
      refine ⟨upd t 14 (.agg #[.int .i64 x, .int .i64 y]), by rw [mk28]; simp [upd, b7], HR.out _ _ ⟨hU.upd 14 _ (by decide), sB, sX, sY, fun _ => rfl, fun g => h1 (by simpa using g), fun g => h2 (by simpa using g), fun g => h3 (by simpa using g), fun g => h4 (by simpa using g), fun g => h5 (by simpa using g), fun g => h6 (by simpa using g), fun g => h7 (by simpa using g), fun g => h8 (by simpa using g), fun g => h9 (by simpa using g), fun g => h10 (by simpa using g), fun g => h11 (by simpa using g)⟩⟩
    · rintro L t W ⟨hU, sB, sX, sY, h0, h1, h2, h3, h4, h5, h6, h7, h8, h9, h10, h11⟩ hi hd R hR
      have b5 : t 5 = .pointer (some ⟨w.heap.size, 0, none⟩) := hU 5 (by decide)
      have c0 : W.cell? ⟨w.heap.size, 0, none⟩ = some (.slice a len cap) := cell_of_row _ _ 0 _ _ _ sX
      have HR := Lib.hid hR
      clear hR
      rw [mk28]
      go_wp2_with fail
      refine ⟨upd t 15 (.agg #[.slice a len cap]), by rw [mk28]; simp [upd, b5], HR.out _ _ ⟨hU.upd 15 _ (by decide), sB, sX, sY, fun g => h0 (by simpa using g), fun _ => rfl, fun g => h2 (by simpa using g), fun g => h3 (by simpa using g), fun g => h4 (by simpa using g), fun g => h5 (by simpa using g), fun g => h6 (by simpa using g), fun g => h7 (by simpa using g), fun g => h8 (by simpa using g), fun g => h9 (by simpa using g), fun g => h10 (by simpa using g), fun g => h11 (by simpa using g)⟩⟩
    · rintro L t W ⟨hU, sB, sX, sY, h0, h1, h2, h3, h4, h5, h6, h7, h8, h9, h10, h11⟩ hi hd R hR
      have b1 : t 1 = .int .i64 i := hU 1 (by decide)
      have HR := Lib.hid hR
      clear hR
      rw [mk28]
      go_wp2_with fail
      refine ⟨upd t 16 (.int .i64 i), by rw [mk28]; simp [upd, b1], HR.out _ _ ⟨hU.upd 16 _ (by decide), sB, sX, sY, fun g => h0 (by simpa using g), fun g => h1 (by simpa using g), fun _ => rfl, fun g => h3 (by simpa using g), fun g => h4 (by simpa using g), fun g => h5 (by simpa using g), fun g => h6 (by simpa using g), fun g => h7 (by simpa using g), fun g => h8 (by simpa using g), fun g => h9 (by simpa using g), fun g => h10 (by simpa using g), fun g => h11 (by simpa using g)⟩⟩
    · rintro L t W ⟨hU, sB, sX, sY, h0, h1, h2, h3, h4, h5, h6, h7, h8, h9, h10, h11⟩ hi hd R hR
      have b3 : t 3 = .bool last := hU 3 (by decide)
      have HR := Lib.hid hR
      clear hR
      rw [mk28]
      go_wp2_with fail
      refine ⟨upd t 17 (.bool last), by rw [mk28]; simp [upd, b3], HR.out _ _ ⟨hU.upd 17 _ (by decide), sB, sX, sY, fun g => h0 (by simpa using g), fun g => h1 (by simpa using g), fun g => h2 (by simpa using g), fun _ => rfl, fun g => h4 (by simpa using g), fun g => h5 (by simpa using g), fun g => h6 (by simpa using g), fun g => h7 (by simpa using g), fun g => h8 (by simpa using g), fun g => h9 (by simpa using g), fun g => h10 (by simpa using g), fun g => h11 (by simpa using g)⟩⟩
    · rintro L t W ⟨hU, sB, sX, sY, h0, h1, h2, h3, h4, h5, h6, h7, h8, h9, h10, h11⟩ hi hd R hR
      have b4 : t 4 = .slice ai li ci := hU 4 (by decide)
      have HR := Lib.hid hR
      clear hR
      rw [mk28]
      go_wp2_with fail
      refine ⟨upd t 18 (.slice ai li ci), by rw [mk28]; simp [upd, b4], HR.out _ _ ⟨hU.upd 18 _ (by decide), sB, sX, sY, fun g => h0 (by simpa using g), fun g => h1 (by simpa using g), fun g => h2 (by simpa using g), fun g => h3 (by simpa using g), fun _ => rfl, fun g => h5 (by simpa using g), fun g => h6 (by simpa using g), fun g => h7 (by simpa using g), fun g => h8 (by simpa using g), fun g => h9 (by simpa using g), fun g => h10 (by simpa using g), fun g => h11 (by simpa using g)⟩⟩
    · rintro L t W ⟨hU, sB, sX, sY, h0, h1, h2, h3, h4, h5, h6, h7, h8, h9, h10, h11⟩ hi hd R hR
      have f1 := h1 (hd 1 (by kernel_rfl))
      have f2 := h2 (hd 2 (by kernel_rfl))
      have f3 := h3 (hd 3 (by kernel_rfl))
      have f4 := h4 (hd 4 (by kernel_rfl))
      have HR := Lib.hid hR
      clear hR
      rw [mk28]
      go_wp2_with fail
      refine (HP.out W sB sX sY).mono ?_
      rintro e W2 ⟨⟨n, rfl⟩, hb2, hx2, hy2⟩
      dsimp only
      go_wp2_with fail
      refine ⟨upd t 19 (.int .i64 n), by rw [mk28]; simp [upd, f1, f2, f3, f4], HR.out _ _ ⟨hU.upd 19 _ (by decide), hb2, hx2, hy2, fun g => h0 (by simpa using g), fun g => h1 (by simpa using g), fun g => h2 (by simpa using g), fun g => h3 (by simpa using g), fun g => h4 (by simpa using g), fun _ => ⟨n, rfl⟩, fun g => h6 (by simpa using g), fun g => h7 (by simpa using g), fun g => h8 (by simpa using g), fun g => h9 (by simpa using g), fun g => h10 (by simpa using g), fun g => h11 (by simpa using g)⟩⟩
    · rintro L t W ⟨hU, sB, sX, sY, h0, h1, h2, h3, h4, h5, h6, h7, h8, h9, h10, h11⟩ hi hd R hR
      have f0 := h0 (hd 0 (by kernel_rfl))
      have f5 := h5 (hd 5 (by kernel_rfl))
      obtain ⟨n, f5⟩ := f5
      have HR := Lib.hid hR
      clear hR
      rw [mk28]
      go_wp2_with fail
      refine (HN.out W n sB sX sY).mono ?_
      rintro e W2 ⟨⟨q, m, rfl⟩, hb2, hx2, hy2⟩
      dsimp only
      go_wp2_with fail
      refine ⟨upd t 20 (.tuple #[.bool q, .int .i64 m]), by rw [mk28]; simp [upd, f0, f5], HR.out _ _ ⟨hU.upd 20 _ (by decide), hb2, hx2, hy2, fun g => h0 (by simpa using g), fun g => h1 (by simpa using g), fun g => h2 (by simpa using g), fun g => h3 (by simpa using g), fun g => h4 (by simpa using g), fun g => h5 (by simpa using g), fun _ => ⟨q, m, rfl⟩, fun g => h7 (by simpa using g), fun g => h8 (by simpa using g), fun g => h9 (by simpa using g), fun g => h10 (by simpa using g), fun g => h11 (by simpa using g)⟩⟩
    · rintro L t W ⟨hU, sB, sX, sY, h0, h1, h2, h3, h4, h5, h6, h7, h8, h9, h10, h11⟩ hi hd R hR
      have f6 := h6 (hd 6 (by kernel_rfl))
      obtain ⟨q, m, f6⟩ := f6
      have HR := Lib.hid hR
      clear hR
      rw [mk28]
      go_wp2_with fail
      refine ⟨upd t 13 (.tuple #[.bool q, .int .i64 m]), by rw [mk28]; simp [upd, f6], HR.out _ _ ⟨hU.upd 13 _ (by decide), sB, sX, sY, fun g => h0 (by simpa using g), fun g => h1 (by simpa using g), fun g => h2 (by simpa using g), fun g => h3 (by simpa using g), fun g => h4 (by simpa using g), fun g => h5 (by simpa using g), fun g => h6 (by simpa using g), fun _ => ⟨q, m, rfl⟩, fun g => h8 (by simpa using g), fun g => h9 (by simpa using g), fun g => h10 (by simpa using g), fun g => h11 (by simpa using g)⟩⟩
    · rintro L t W ⟨hU, sB, sX, sY, h0, h1, h2, h3, h4, h5, h6, h7, h8, h9, h10, h11⟩ hi hd R hR
      have f7 := h7 (hd 7 (by kernel_rfl))
      obtain ⟨q, m, f7⟩ := f7
      have HR := Lib.hid hR
      clear hR
      rw [mk28]
      go_wp2_with fail
      refine ⟨upd t 21 (.bool q), by rw [mk28]; simp [upd, f7], HR.out _ _ ⟨hU.upd 21 _ (by decide), sB, sX, sY, fun g => h0 (by simpa using g), fun g => h1 (by simpa using g), fun g => h2 (by simpa using g), fun g => h3 (by simpa using g), fun g => h4 (by simpa using g), fun g => h5 (by simpa using g), fun g => h6 (by simpa using g), fun g => h7 (by simpa using g), fun _ => ⟨q, rfl⟩, fun g => h9 (by simpa using g), fun g => h10 (by simpa using g), fun g => h11 (by simpa using g)⟩⟩
    · rintro L t W ⟨hU, sB, sX, sY, h0, h1, h2, h3, h4, h5, h6, h7, h8, h9, h10, h11⟩ hi hd R hR
      have f7 := h7 (hd 7 (by kernel_rfl))
      obtain ⟨q, m, f7⟩ := f7
      have HR := Lib.hid hR
      clear hR
      rw [mk28]
      go_wp2_with fail
      refine ⟨upd t 22 (.int .i64 m), by rw [mk28]; simp [upd, f7], HR.out _ _ ⟨hU.upd 22 _ (by decide), sB, sX, sY, fun g => h0 (by simpa using g), fun g => h1 (by simpa using g), fun g => h2 (by simpa using g), fun g => h3 (by simpa using g), fun g => h4 (by simpa using g), fun g => h5 (by simpa using g), fun g => h6 (by simpa using g), fun g => h7 (by simpa using g), fun g => h8 (by simpa using g), fun _ => ⟨m, rfl⟩, fun g => h10 (by simpa using g), fun g => h11 (by simpa using g)⟩⟩
    · rintro L t W ⟨hU, sB, sX, sY, h0, h1, h2, h3, h4, h5, h6, h7, h8, h9, h10, h11⟩ hi hd R hR
      have f8 := h8 (hd 8 (by kernel_rfl))
      obtain ⟨q, f8⟩ := f8
      have HR := Lib.hid hR
      clear hR
      rw [mk28]
      go_wp2_with fail
      refine ⟨upd t 11 (.bool q), by rw [mk28]; simp [upd, f8], HR.out _ _ ⟨hU.upd 11 _ (by decide), sB, sX, sY, fun g => h0 (by simpa using g), fun g => h1 (by simpa using g), fun g => h2 (by simpa using g), fun g => h3 (by simpa using g), fun g => h4 (by simpa using g), fun g => h5 (by simpa using g), fun g => h6 (by simpa using g), fun g => h7 (by simpa using g), fun g => h8 (by simpa using g), fun g => h9 (by simpa using g), fun _ => ⟨q, rfl⟩, fun g => h11 (by simpa using g)⟩⟩
    · rintro L t W ⟨hU, sB, sX, sY, h0, h1, h2, h3, h4, h5, h6, h7, h8, h9, h10, h11⟩ hi hd R hR
      have f9 := h9 (hd 9 (by kernel_rfl))
      obtain ⟨m, f9⟩ := f9
      have HR := Lib.hid hR
      clear hR
      rw [mk28]
      go_wp2_with fail
      refine ⟨upd t 12 (.int .i64 m), by rw [mk28]; simp [upd, f9], HR.out _ _ ⟨hU.upd 12 _ (by decide), sB, sX, sY, fun g => h0 (by simpa using g), fun g => h1 (by simpa using g), fun g => h2 (by simpa using g), fun g => h3 (by simpa using g), fun g => h4 (by simpa using g), fun g => h5 (by simpa using g), fun g => h6 (by simpa using g), fun g => h7 (by simpa using g), fun g => h8 (by simpa using g), fun g => h9 (by simpa using g), fun g => h10 (by simpa using g), fun _ => ⟨m, rfl⟩⟩⟩
  case last =>
    rintro L t W hU ⟨sB, sX, sY, h0, h1, h2, h3, h4, h5, h6, h7, h8, h9, h10, h11⟩ hall
    obtain ⟨q, f10⟩ := h10 (hall 10 (by decide))
    obtain ⟨m, f11⟩ := h11 (hall 11 (by decide))
    have HB3 := Lib.hid sB
    have b0 := hU 0 (by decide)
    have b10 := hU 10 (by decide)
    have b23 := hU 23 (by decide)
    have b24 := hU 24 (by decide)
    have b25 := hU 25 (by decide)
    have b26 := hU 26 (by decide)
    have b27 := hU 27 (by decide)
    simp at b0 b10 b23 b24 b25 b26 b27
    clear sB sX sY h0 h1 h2 h3 h4 h5 h6 h7 h8 h9 h10 h11
    rw [mk28]
    simp only [b0, b10, b23, b24, b25, b26, b27, f10, f11]
    by_cases hm : m = 0
    · subst hm
      go_wp2_with fail
      all_goals go_ret
      all_goals exact ⟨⟨_, rfl⟩, HB3.out⟩
    · have hm1 : (m == 0) = false := by simp [hm]
      go_wp2_with fail
      all_goals go_ret
      all_goals exact ⟨⟨_, rfl⟩, HB3.out⟩
def AllBools (xs : List Value) : Prop := ∀ u ∈ xs, ∃ q : Bool, u = .bool q
theorem AllBools.snoc {xs : List Value} (h : AllBools xs) (q : Bool) : AllBools (xs ++ [.bool q]) := fun u hu => by
  simp only [List.mem_append, List.mem_singleton] at hu
  rcases hu with hu | rfl
  · exact h u hu
  · exact ⟨q, rfl⟩
/-- Bools in new memory; at most m values. -/
def NewBools (B m : Nat) (w : World) (v : Value) : Prop := ∃ len cap rows, Rd (Nw B w) w (.sl 1 len cap rows) v ∧ HtRows tab [.bool] rows ∧ nodesRows rows ≤ m
theorem bools_flat {F : Nat → Prop} {w : World} : ∀ (xs : List Value), AllBools xs → ∃ rows, RdFlat F w rows xs ∧ HtRows tab [.bool] rows ∧ rows.length = xs.length ∧ nodesRows rows = 2 * xs.length ∧ ∀ r ∈ rows, r.length = 1
  | [], _ => ⟨[], by simp [RdFlat], by simp [HtRows], rfl, by simp [nodesRows], by simp⟩
  | x :: xs, h => by
    obtain ⟨rows, r1, r2, r3, r4, r5⟩ := bools_flat xs (fun u hu => h u (by simp [hu]))
    obtain ⟨s, rfl⟩ := h x (by simp)
    refine ⟨[.bool s] :: rows, ⟨[.bool s], xs, rfl, ?_, r1⟩, ?_, by simp [r3], by simp only [nodesRows, nodesRow, nodes, List.length_cons]; omega, fun r hr => ?_⟩
    · simp [RdVals, Rd]
    · simp only [HtRows, HtRow, Ht, and_true]
      first | exact ⟨trivial, r2⟩ | exact r2
    · simp only [List.mem_cons] at hr
      rcases hr with rfl | hr
      · rfl
      · exact r5 r hr
theorem NewBools.own {w : World} {B n m : Nat} {v : Value} {xs : List Value} (h : w.ownsRow B 4 1 v n xs) (hx : AllBools xs) (hm : 2 * n ≤ m) : NewBools B m w v := by
  obtain ⟨rows, r1, r2, r3, r4, r5⟩ := bools_flat (F := Nw B w) (w := w) xs hx
  have hl := h.1
  obtain ⟨cap, hc⟩ := Rd.of_own h r1 (by omega) r5
  exact ⟨n, cap, rows, hc, r2, by omega⟩
theorem NewBools.none (B m : Nat) (w : World) : NewBools B m w (.slice none 0 0) := ⟨0, 0, [], by simp only [Rd]; exact ⟨_, rfl, by simp, by simp, .inl trivial⟩, by simp [HtRows], by simp [nodesRows]⟩
theorem NewBools.lower {B B' m : Nat} {w : World} {v : Value} (hB : B' ≤ B) (h : NewBools B m w v) : NewBools B' m w v := by
  obtain ⟨len, cap, rows, h1, h2, h3⟩ := h
  exact ⟨len, cap, rows, Rd.mono (Nw.lower hB) _ _ h1, h2, h3⟩
/-- Bools in new memory, and an error. -/
def BoolsP (B m : Nat) (e : Ending) (w' : World) : Prop := ∃ v n, e = .returned (.tuple #[v, .int .i64 n]) ∧ NewBools B m w' v
set_option maxRecDepth 100000 in
set_option maxHeartbeats 4000000 in
/-- nth.All. -/
theorem nthAll_ok (F : Nat → Prop) (w : World) (a ai : Option Addr) (x y : Int) (last : Bool) (len cap li ci : Nat) (rows bs : List (List C)) (hr : Rd F w (.sl 4 len cap rows) (.slice a len cap)) (ht : HtRows tab [.str, .sl 201, .int .i64, .sl 3] rows) (hF : ∀ k, F k → k < w.heap.size) (hnn : nodesRows rows ≤ 1099511627776) (hbs : Rd F w (.sl 1 li ci bs) (.slice ai li ci)) (htb : HtRows tab [.bool] bs) :
    Calls Tryz.prog 28 #[.agg #[.slice a len cap], .agg #[.int .i64 x, .int .i64 y], .bool last, .slice ai li ci] w fun e w' => BoolsP w.heap.size 200 e w' ∧ Below w.heap.size w w' := by
  obtain ⟨i0, hi0, hz0, hz1, hz2⟩ := info_parts zinfo4
  obtain ⟨W, hW⟩ : ∃ W, W = ((w.alloc (Obj.cells #[.slice a len cap] 24)).alloc (Obj.cells #[.int .i64 x, .int .i64 y] 54)) := ⟨_, rfl⟩
  have b1 : Below w.heap.size w (w.alloc (Obj.cells #[.slice a len cap] 24)) := (Below.refl _ _).alloc (Nat.le_refl _) _
  have hb : Below w.heap.size w W := by rw [hW]; exact b1.alloc b1.size _
  have s1 : W.heap.size = w.heap.size + 2 := by rw [hW, alloc_size, alloc_size]
  have x0 : W.heap[w.heap.size]? = some (.cells #[.slice a len cap] 24 (0, 0)) := by rw [hW]; exact (Below.heap_alloc _ _ _ (by rw [alloc_size]; omega)).trans (heap_alloc_new w _)
  have x1 : W.heap[w.heap.size + 1]? = some (.cells #[.int .i64 x, .int .i64 y] 54 (0, 0)) := by
    rw [hW]; have := heap_alloc_new (w.alloc (Obj.cells #[.slice a len cap] 24)) (Obj.cells #[.int .i64 x, .int .i64 y] 54); rwa [alloc_size] at this
  have hc := nthCheck_ok F W a ai len cap li ci rows (Rd.mono (fun k hk => ⟨hk, hb.block k (hF k hk)⟩) _ _ hr) ht (fun k hk => Nat.lt_of_lt_of_le (hF k hk) hb.size) hnn
  have c0 : W.cell? ⟨w.heap.size, 0, none⟩ = some (.slice a len cap) := cell_of_row _ _ 0 _ _ _ x0
  have HC := Lib.hid hc
  have HW := Lib.hid hW
  have HB := Lib.hid hb
  have HR := Lib.hid (And.intro hr (And.intro ht (And.intro hF (And.intro hbs htb))))
  have HX := Lib.hid (And.intro x0 (And.intro x1 s1))
  clear hc hW b1 hb x0 x1 s1 hr ht hF hbs htb
  go_enter Tryz.func28, Tryz.ntmps28
  go_wp2_with fail
  rw [← HW.out]
  go_wp2_with fail
  refine HC.out.mono ?_
  rintro e w1 ⟨⟨n, rfl, hn⟩, hb1⟩
  have HN := Lib.hid hn
  have hb2 := HB.out.trans (hb1.mono HB.out.size)
  have x2 : w1.heap[w.heap.size]? = some (.cells #[.slice a len cap] 24 (0, 0)) := (hb1.block _ (by have := HX.out.2.2; omega)).trans HX.out.1
  have y2 : w1.heap[w.heap.size + 1]? = some (.cells #[.int .i64 x, .int .i64 y] 54 (0, 0)) := (hb1.block _ (by have := HX.out.2.2; omega)).trans HX.out.2.1
  have d0 : w1.cell? ⟨w.heap.size + 1, 0, none⟩ = some (.int .i64 x) := cell_of_row _ _ 0 _ _ _ y2
  have d1 : w1.cell? ⟨w.heap.size + 1, 1, none⟩ = some (.int .i64 y) := cell_of_row _ _ 1 _ _ _ y2
  have HB2 := Lib.hid hb2
  have HX2 := Lib.hid (And.intro x2 y2)
  clear hn hb1 hb2 c0 x2 y2
  by_cases hn0 : n = 0
  case neg =>
    have hn1 : (n != 0) = true := by simp [hn0]
    go_wp2_with fail
    go_ret2
    exact ⟨⟨_, n, rfl, NewBools.none _ _ _⟩, HB2.out⟩
  case pos =>
  subst hn0
  go_wp2_with fail
  refine (anbCheck_ok _ _ _).mono ?_
  rintro e w2 ⟨⟨m, rfl⟩, hb3⟩
  have hb4 := HB2.out.trans (hb3.mono HB2.out.size)
  have lt1 := (Array.getElem?_eq_some_iff.1 HX2.out.2).1
  have x3 : w2.heap[w.heap.size]? = some (.cells #[.slice a len cap] 24 (0, 0)) := (hb3.block _ (by omega)).trans HX2.out.1
  have y3 : w2.heap[w.heap.size + 1]? = some (.cells #[.int .i64 x, .int .i64 y] 54 (0, 0)) := (hb3.block _ (by omega)).trans HX2.out.2
  have c2 : w2.cell? ⟨w.heap.size, 0, none⟩ = some (.slice a len cap) := cell_of_row _ _ 0 _ _ _ x3
  have HB4 := Lib.hid hb4
  have HX3 := Lib.hid (And.intro x3 y3)
  clear hb3 hb4 x3 y3 d0 d1
  by_cases hm0 : m = 0
  case neg =>
    have hm1 : (m != 0) = true := by simp [hm0]
    go_wp2_with fail
    go_ret2
    exact ⟨⟨_, m, rfl, NewBools.none _ _ _⟩, HB4.out⟩
  case pos =>
  subst hm0
  have hg := HN.out (by first | trivial | rfl)
  have HG := Lib.hid hg
  have hl2 := hg.1.l2
  clear hg
  go_wp2_with fail
  go_loopw [12, 28] (fun x12 x28 wr => ∃ (k : Nat) (xs : List Value), x28 = .int .i64 k ∧ k ≤ len ∧ Below w.heap.size w wr ∧ wr.heap[w.heap.size]? = some (.cells #[.slice a len cap] 24 (0, 0)) ∧ wr.heap[w.heap.size + 1]? = some (.cells #[.int .i64 x, .int .i64 y] 54 (0, 0)) ∧ wr.ownsRow (w.heap.size + 2) 4 1 x12 k xs ∧ AllBools xs) (fun _ x28 _ => len - (intOf x28).toNat)
  case atStart => exact ⟨0, [], rfl, by omega, HB4.out, HX3.out.1, HX3.out.2, ⟨by simp, .inl ⟨rfl, rfl⟩⟩, fun u hu => by simp at hu⟩
  case round =>
    obtain ⟨k, xs, rfl, hk, hB, hX, hY, hO, hxs⟩ := hrel
    obtain ⟨aG, cG, rfl⟩ := own_slice hO
    clear c2
    have cw : wr.cell? ⟨w.heap.size, 0, none⟩ = some (.slice a len cap) := cell_of_row _ _ 0 _ _ _ hX
    have e0 : wr.cell? ⟨w.heap.size + 1, 0, none⟩ = some (.int .i64 x) := cell_of_row _ _ 0 _ _ _ hY
    have e1 : wr.cell? ⟨w.heap.size + 1, 1, none⟩ = some (.int .i64 y) := cell_of_row _ _ 1 _ _ _ hY
    have hlw : w.heap.size + 2 ≤ wr.heap.size := by have := (Array.getElem?_eq_some_iff.1 hY).1; omega
    by_cases hlt : k < len
    · have hm := nthMatch_ok F wr a ai k x y last len cap li ci rows bs (Rd.mono (fun k hk => ⟨hk, hB.block k (HR.out.2.2.1 k hk)⟩) _ _ HR.out.1) HR.out.2.1 (fun k hk => Nat.lt_of_lt_of_le (HR.out.2.2.1 k hk) hB.size) hnn HG.out.1 hlt (Rd.mono (fun k hk => ⟨hk, hB.block k (HR.out.2.2.1 k hk)⟩) _ _ HR.out.2.2.2.1) HR.out.2.2.2.2 HG.out.2
      have HM := Lib.hid hm
      have HK := Lib.hid (And.intro hB (And.intro hX (And.intro hY (And.intro hO hxs))))
      clear hm hB hX hY hO hxs
      go_wp2_with fail
      refine HM.out.mono ?_
      rintro e w3 ⟨⟨q, rfl⟩, hb5⟩
      obtain ⟨hB, hX, hY, hO, hxs⟩ := HK.out
      have hB3 := hB.trans (hb5.mono hB.size)
      have hX3 := (hb5.block _ (by omega)).trans hX
      have hY3 := (hb5.block _ (by omega)).trans hY
      have hO3 : w3.ownsRow (w.heap.size + 2) 4 1 (.slice aG k cG) k xs := ownsRow_below hO hb5
      have hsz := hb5.size
      have hpush : ∀ (X : Obj) (w5 : World) (g cp : Nat), (w3.alloc X).grownBy w5 (Value.slice aG k cG).ownBlock →
          Below w.heap.size w w5 ∧ w5.heap[w.heap.size]? = some (.cells #[.slice a len cap] 24 (0, 0)) ∧ w5.heap[w.heap.size + 1]? = some (.cells #[.int .i64 x, .int .i64 y] 54 (0, 0)) := fun X w5 g cp hg =>
        ⟨(hB3.alloc (by omega) X).grown hg (by rw [alloc_size]; omega) (fun k hk => by have := own_ge hO3 k hk; omega),
         (hg.block _ (by rw [alloc_size]; omega) (fun e => by have := own_ge hO3 _ e.symm; omega)).trans ((Below.heap_alloc _ _ _ (by omega)).trans hX3),
         (hg.block _ (by rw [alloc_size]; omega) (fun e => by have := own_ge hO3 _ e.symm; omega)).trans ((Below.heap_alloc _ _ _ (by omega)).trans hY3)⟩
      have HPU := Lib.hid hpush
      have HXS := Lib.hid hxs
      have hlw3 : w.heap.size + 2 ≤ w3.heap.size := by omega
      clear hpush hB hX hY hO hxs hB3 hX3 hY3 hb5 cw e0 e1
      go_wp2_with (at_builtin; go_must (refine wpList_append_lies _ rfl _ _ 45 rfl (w.heap.size + 2) 4 i0 _ 1 1 Tryz.underlying45 hi0 hz0 hz1 hz2 rfl (by decide) (.slice aG k cG) k xs rfl (hO3.alloc _) _ 1 1 [.bool q] rfl rfl (World.news_of_block (heap_alloc_new w3 _)) (by simp [Value.oneCell']) (by decide) (by simp [maxLen]; omega) (by omega) (by rw [alloc_size]; omega) _ rfl ?_; intro g cp w5 ho hg hor hlt5; have hbx := HPU.out _ w5 g cp hg))
      go_roundw
      case rel => exact ⟨k + 1, _, rfl, by omega, hbx.1, hbx.2.1, hbx.2.2, ho, HXS.out.snoc q⟩
      case measure => simp [intOf]; omega
    · obtain rfl : k = len := by omega
      have HK := Lib.hid (And.intro hB (And.intro hO hxs))
      clear hB hX hY hO hxs
      go_wp2_with fail
      go_ret2
      exact ⟨⟨_, 0, rfl, NewBools.lower (Nat.le_add_right _ 2) (NewBools.own HK.out.2.1 HK.out.2.2 (by omega))⟩, HK.out.1⟩
end Go.Proofs.YtgkamgijnhbcbaaGreatDoor
namespace Go.Proofs.YtgkamgijnhbcbaaGreatDoor
open Go.RowKit Go.Vt Go.Proofs
set_option maxRecDepth 100000 in
set_option maxHeartbeats 4000000 in
theorem nthPlaceW_ok (F : Nat → Prop) (w : World) (a ai : Option Addr) (x : Int) (last : Bool) (len cap li ci : Nat) (rows bs : List (List C)) (hr : Rd F w (.sl 4 len cap rows) (.slice a len cap)) (ht : HtRows tab [.str, .sl 201, .int .i64, .sl 3] rows) (hF : ∀ k, F k → k < w.heap.size) (hnn : nodesRows rows ≤ 1099511627776) (hbs : Rd F w (.sl 1 li ci bs) (.slice ai li ci)) (htb : HtRows tab [.bool] bs) :
    Calls Tryz.prog 24 #[.agg #[.slice a len cap], .int .i64 x, .bool last, .slice ai li ci] w fun e w' => (∃ d n : Int, e = .returned (.tuple #[.int .i64 d, .int .i64 n])) ∧ Below w.heap.size w w' := by
  obtain ⟨W, hW⟩ : ∃ W, W = (w.alloc (Obj.cells #[.slice a len cap] 24)) := ⟨_, rfl⟩
  have b1 : Below w.heap.size w (w.alloc (Obj.cells #[.slice a len cap] 24)) := (Below.refl _ _).alloc (Nat.le_refl _) _
  have hb : Below w.heap.size w W := by rw [hW]; exact b1
  have s1 : W.heap.size = w.heap.size + 1 := by rw [hW, alloc_size]
  have x0 : W.heap[w.heap.size]? = some (.cells #[.slice a len cap] 24 (0, 0)) := by rw [hW]; exact heap_alloc_new w _
  have y0 : True := trivial
  have hd := depth2_ok F W (.slice a len cap) x len cap rows (Rd.mono (fun k hk => ⟨hk, hb.block k (hF k hk)⟩) _ _ hr) ht (fun k hk => Nat.lt_of_lt_of_le (hF k hk) hb.size) hnn
  have hc : ∀ V, Below w.heap.size w V → Calls Tryz.prog 65 #[.agg #[.slice a len cap], .slice ai li ci] V fun e w' => (∃ n : Int, e = .returned (.int .i64 n) ∧ (n = 0 → Good2 rows len ∧ li = len)) ∧ Below V.heap.size V w' := fun V hV =>
    nthCheck_ok F V a ai len cap li ci rows (Rd.mono (fun k hk => ⟨hk, hV.block k (hF k hk)⟩) _ _ hr) ht (fun k hk => Nat.lt_of_lt_of_le (hF k hk) hV.size) hnn
  have c0 : W.cell? ⟨w.heap.size, 0, none⟩ = some (.slice a len cap) := cell_of_row _ _ 0 _ _ _ x0
  have HD := Lib.hid hd
  have HC := Lib.hid hc
  have HW := Lib.hid hW
  have HB := Lib.hid hb
  have HR := Lib.hid (And.intro hr (And.intro ht (And.intro hF (And.intro hbs htb))))
  have HX := Lib.hid (And.intro x0 (And.intro y0 s1))
  clear hd hc hW b1 hb x0 y0 s1 hr ht hF hbs htb
  go_enter Tryz.func24, Tryz.ntmps24
  go_wp2_with fail
  rw [← HW.out]
  go_wp2_with fail
  refine HD.out.mono ?_
  rintro e w1 ⟨⟨d, n, rfl, hn⟩, hb1⟩
  have HN := Lib.hid hn
  have hs1 : w.heap.size + 1 ≤ w1.heap.size := by have := hb1.size; have := HX.out.2.2; omega
  have hb2 := HB.out.trans (hb1.mono HB.out.size)
  have x2 : w1.heap[w.heap.size]? = some (.cells #[.slice a len cap] 24 (0, 0)) := (hb1.block _ (by have := HX.out.2.2; omega)).trans HX.out.1
  have y2 : True := trivial
  have c1 : w1.cell? ⟨w.heap.size, 0, none⟩ = some (.slice a len cap) := cell_of_row _ _ 0 _ _ _ x2
  have HB2 := Lib.hid hb2
  have HX2 := Lib.hid (And.intro x2 y2)
  clear hn hb1 hb2 c0 x2 y2
  by_cases hn0 : n = 0
  case neg =>
    have hn1 : (n != 0) = true := by simp [hn0]
    go_wp2_with fail
    go_ret2
    exact ⟨⟨_, _, rfl⟩, HB2.out⟩
  case pos =>
  subst hn0
  go_wp2_with fail
  refine (HC.out w1 HB2.out).mono ?_
  rintro e w2 ⟨⟨n, rfl, hn⟩, hb3⟩
  have HN2 := Lib.hid hn
  have hs2 : w.heap.size + 1 ≤ w2.heap.size := by have := hb3.size; omega
  have hb4 := HB2.out.trans (hb3.mono HB2.out.size)
  have x3 : w2.heap[w.heap.size]? = some (.cells #[.slice a len cap] 24 (0, 0)) := (hb3.block _ (by omega)).trans HX2.out.1
  have y3 : True := trivial
  have c2 : w2.cell? ⟨w.heap.size, 0, none⟩ = some (.slice a len cap) := cell_of_row _ _ 0 _ _ _ x3
  have HB4 := Lib.hid hb4
  have HX3 := Lib.hid (And.intro x3 y3)
  clear hn hb3 hb4 c1 x3 y3
  by_cases hn0 : n = 0
  case neg =>
    have hn1 : (n != 0) = true := by simp [hn0]
    go_wp2_with fail
    go_ret2
    exact ⟨⟨_, _, rfl⟩, HB4.out⟩
  case pos =>
  subst hn0
  obtain ⟨hG, hli⟩ := HN2.out (by first | trivial | rfl)
  obtain ⟨_, hx1, hx2⟩ := HN.out (by first | trivial | rfl)
  obtain ⟨xn, rfl⟩ := Int.eq_ofNat_of_zero_le hx1
  obtain ⟨hr, ht, hF, hbs, htb⟩ := HR.out
  have hp := nthPlace_ok F w2 a ai xn last len cap li ci rows bs (Rd.mono (fun k hk => ⟨hk, HB4.out.block k (hF k hk)⟩) _ _ hr) ht (fun k hk => Nat.lt_of_lt_of_le (hF k hk) HB4.out.size) hnn hG (by omega) (Rd.mono (fun k hk => ⟨hk, HB4.out.block k (hF k hk)⟩) _ _ hbs) htb hli
  have HP := Lib.hid hp
  clear hp hr ht hF hbs htb hli hx1 hx2 hG
  go_wp2_with fail
  refine HP.out.mono ?_
  rintro e w3 ⟨⟨m, rfl⟩, hb5⟩
  have HB5 := Lib.hid (HB4.out.trans (hb5.mono HB4.out.size))
  clear hb5
  by_cases hm : m = 0
  · subst hm
    go_wp2_with fail
    go_ret2
    exact ⟨⟨_, _, rfl⟩, HB5.out⟩
  · have hm1 : (m == 0) = false := by simp [hm]
    go_wp2_with fail
    go_ret2
    exact ⟨⟨_, _, rfl⟩, HB5.out⟩
set_option maxRecDepth 100000 in
set_option maxHeartbeats 4000000 in
theorem nthMatchW_ok (F : Nat → Prop) (w : World) (a ai : Option Addr) (x p q : Int) (last : Bool) (len cap li ci : Nat) (rows bs : List (List C)) (hr : Rd F w (.sl 4 len cap rows) (.slice a len cap)) (ht : HtRows tab [.str, .sl 201, .int .i64, .sl 3] rows) (hF : ∀ k, F k → k < w.heap.size) (hnn : nodesRows rows ≤ 1099511627776) (hbs : Rd F w (.sl 1 li ci bs) (.slice ai li ci)) (htb : HtRows tab [.bool] bs) :
    Calls Tryz.prog 26 #[.agg #[.slice a len cap], .int .i64 x, .agg #[.int .i64 p, .int .i64 q], .bool last, .slice ai li ci] w fun e w' => (∃ (d : Bool) (n : Int), e = .returned (.tuple #[.bool d, .int .i64 n])) ∧ Below w.heap.size w w' := by
  obtain ⟨W, hW⟩ : ∃ W, W = ((w.alloc (Obj.cells #[.slice a len cap] 24)).alloc (Obj.cells #[.int .i64 p, .int .i64 q] 54)) := ⟨_, rfl⟩
  have b1 : Below w.heap.size w (w.alloc (Obj.cells #[.slice a len cap] 24)) := (Below.refl _ _).alloc (Nat.le_refl _) _
  have hb : Below w.heap.size w W := by rw [hW]; exact b1.alloc b1.size _
  have s1 : W.heap.size = w.heap.size + 2 := by rw [hW, alloc_size, alloc_size]
  have x0 : W.heap[w.heap.size]? = some (.cells #[.slice a len cap] 24 (0, 0)) := by rw [hW]; exact (Below.heap_alloc _ _ _ (by rw [alloc_size]; omega)).trans (heap_alloc_new w _)
  have y0 : W.heap[w.heap.size + 1]? = some (.cells #[.int .i64 p, .int .i64 q] 54 (0, 0)) := by
    rw [hW]; have := heap_alloc_new (w.alloc (Obj.cells #[.slice a len cap] 24)) (Obj.cells #[.int .i64 p, .int .i64 q] 54); rwa [alloc_size] at this
  have hd := depth2_ok F W (.slice a len cap) x len cap rows (Rd.mono (fun k hk => ⟨hk, hb.block k (hF k hk)⟩) _ _ hr) ht (fun k hk => Nat.lt_of_lt_of_le (hF k hk) hb.size) hnn
  have hc : ∀ V, Below w.heap.size w V → Calls Tryz.prog 65 #[.agg #[.slice a len cap], .slice ai li ci] V fun e w' => (∃ n : Int, e = .returned (.int .i64 n) ∧ (n = 0 → Good2 rows len ∧ li = len)) ∧ Below V.heap.size V w' := fun V hV =>
    nthCheck_ok F V a ai len cap li ci rows (Rd.mono (fun k hk => ⟨hk, hV.block k (hF k hk)⟩) _ _ hr) ht (fun k hk => Nat.lt_of_lt_of_le (hF k hk) hV.size) hnn
  have c0 : W.cell? ⟨w.heap.size, 0, none⟩ = some (.slice a len cap) := cell_of_row _ _ 0 _ _ _ x0
  have HD := Lib.hid hd
  have HC := Lib.hid hc
  have HW := Lib.hid hW
  have HB := Lib.hid hb
  have HR := Lib.hid (And.intro hr (And.intro ht (And.intro hF (And.intro hbs htb))))
  have HX := Lib.hid (And.intro x0 (And.intro y0 s1))
  clear hd hc hW b1 hb x0 y0 s1 hr ht hF hbs htb
  go_enter Tryz.func26, Tryz.ntmps26
  go_wp2_with fail
  rw [← HW.out]
  go_wp2_with fail
  refine HD.out.mono ?_
  rintro e w1 ⟨⟨d, n, rfl, hn⟩, hb1⟩
  have HN := Lib.hid hn
  have hs1 : w.heap.size + 2 ≤ w1.heap.size := by have := hb1.size; have := HX.out.2.2; omega
  have hb2 := HB.out.trans (hb1.mono HB.out.size)
  have x2 : w1.heap[w.heap.size]? = some (.cells #[.slice a len cap] 24 (0, 0)) := (hb1.block _ (by have := HX.out.2.2; omega)).trans HX.out.1
  have y2 : w1.heap[w.heap.size + 1]? = some (.cells #[.int .i64 p, .int .i64 q] 54 (0, 0)) := (hb1.block _ (by have := HX.out.2.2; omega)).trans HX.out.2.1
  have c1 : w1.cell? ⟨w.heap.size, 0, none⟩ = some (.slice a len cap) := cell_of_row _ _ 0 _ _ _ x2
  have HB2 := Lib.hid hb2
  have HX2 := Lib.hid (And.intro x2 y2)
  clear hn hb1 hb2 c0 x2 y2
  by_cases hn0 : n = 0
  case neg =>
    have hn1 : (n != 0) = true := by simp [hn0]
    go_wp2_with fail
    go_ret2
    exact ⟨⟨_, _, rfl⟩, HB2.out⟩
  case pos =>
  subst hn0
  go_wp2_with fail
  refine (HC.out w1 HB2.out).mono ?_
  rintro e w2 ⟨⟨n, rfl, hn⟩, hb3⟩
  have HN2 := Lib.hid hn
  have hs2 : w.heap.size + 2 ≤ w2.heap.size := by have := hb3.size; omega
  have hb4 := HB2.out.trans (hb3.mono HB2.out.size)
  have x3 : w2.heap[w.heap.size]? = some (.cells #[.slice a len cap] 24 (0, 0)) := (hb3.block _ (by omega)).trans HX2.out.1
  have y3 : w2.heap[w.heap.size + 1]? = some (.cells #[.int .i64 p, .int .i64 q] 54 (0, 0)) := (hb3.block _ (by omega)).trans HX2.out.2
  have c2 : w2.cell? ⟨w.heap.size, 0, none⟩ = some (.slice a len cap) := cell_of_row _ _ 0 _ _ _ x3
  have HB4 := Lib.hid hb4
  have HX3 := Lib.hid (And.intro x3 y3)
  have d0 : w2.cell? ⟨w.heap.size + 1, 0, none⟩ = some (.int .i64 p) := cell_of_row _ _ 0 _ _ _ y3
  have d1 : w2.cell? ⟨w.heap.size + 1, 1, none⟩ = some (.int .i64 q) := cell_of_row _ _ 1 _ _ _ y3
  clear hn hb3 hb4 c1 x3 y3
  by_cases hn0 : n = 0
  case neg =>
    have hn1 : (n != 0) = true := by simp [hn0]
    go_wp2_with fail
    go_ret2
    exact ⟨⟨_, _, rfl⟩, HB4.out⟩
  case pos =>
  subst hn0
  obtain ⟨hG, hli⟩ := HN2.out (by first | trivial | rfl)
  obtain ⟨_, hx1, hx2⟩ := HN.out (by first | trivial | rfl)
  obtain ⟨xn, rfl⟩ := Int.eq_ofNat_of_zero_le hx1
  obtain ⟨hr, ht, hF, hbs, htb⟩ := HR.out
  have hm : ∀ V, Below w.heap.size w V → Calls Tryz.prog 68 #[.agg #[.slice a len cap], .int .i64 xn, .agg #[.int .i64 p, .int .i64 q], .bool last, .slice ai li ci] V fun e w' => IsBool e ∧ Below V.heap.size V w' := fun V hV =>
    nthMatch_ok F V a ai xn p q last len cap li ci rows bs (Rd.mono (fun k hk => ⟨hk, hV.block k (hF k hk)⟩) _ _ hr) ht (fun k hk => Nat.lt_of_lt_of_le (hF k hk) hV.size) hnn hG (by omega) (Rd.mono (fun k hk => ⟨hk, hV.block k (hF k hk)⟩) _ _ hbs) htb hli
  have HM := Lib.hid hm
  clear hm hr ht hF hbs htb hli hx1 hx2 hG
  go_wp2_with fail
  refine (anbCheck_ok _ _ _).mono ?_
  rintro e w3 ⟨⟨m, rfl⟩, hb5⟩
  have HB5 := Lib.hid (HB4.out.trans (hb5.mono HB4.out.size))
  have x4 : w3.heap[w.heap.size]? = some (.cells #[.slice a len cap] 24 (0, 0)) := (hb5.block _ (by omega)).trans HX3.out.1
  have y4 : w3.heap[w.heap.size + 1]? = some (.cells #[.int .i64 p, .int .i64 q] 54 (0, 0)) := (hb5.block _ (by omega)).trans HX3.out.2
  have c3 : w3.cell? ⟨w.heap.size, 0, none⟩ = some (.slice a len cap) := cell_of_row _ _ 0 _ _ _ x4
  have e0 : w3.cell? ⟨w.heap.size + 1, 0, none⟩ = some (.int .i64 p) := cell_of_row _ _ 0 _ _ _ y4
  have e1 : w3.cell? ⟨w.heap.size + 1, 1, none⟩ = some (.int .i64 q) := cell_of_row _ _ 1 _ _ _ y4
  clear hb5 c2 d0 d1 x4 y4
  by_cases hm : m = 0
  case neg =>
    have hm1 : (m != 0) = true := by simp [hm]
    go_wp2_with fail
    go_ret2
    exact ⟨⟨_, _, rfl⟩, HB5.out⟩
  case pos =>
  subst hm
  go_wp2_with fail
  refine (HM.out w3 HB5.out).mono ?_
  rintro e w4 ⟨⟨r, rfl⟩, hb6⟩
  go_wp2_with fail
  go_ret2
  exact ⟨⟨_, _, rfl⟩, HB5.out.trans (hb6.mono HB5.out.size)⟩
end Go.Proofs.YtgkamgijnhbcbaaGreatDoor
