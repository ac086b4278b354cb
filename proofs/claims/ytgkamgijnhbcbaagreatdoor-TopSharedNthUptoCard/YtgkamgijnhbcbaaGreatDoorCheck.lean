/- tree.Check: where it is 0 the tree is well made. -/
import Derived.Test.YtgkamgijnhbcbaaGreatDoorLinked
import Derived.WalkKit
import Derived.WalkSpells
import Derived.WalkLawsBesides
import Derived.Deep.QuietTactic
import Derived.BigQuiet
namespace Go.Proofs.YtgkamgijnhbcbaaGreatDoor
open Go.RowKit Go.Vt Go.Proofs
/-- The parent that node k tells. -/
def par (rows : List (List C)) (k : Nat) : Int := match rows[k]? with
  | some r => parOf r
  | none => -1
/-- From k on, the chain of parents ends within n steps. -/
def Ends (rows : List (List C)) (len : Nat) : Nat → Int → Prop
  | 0, k => k < 0
  | n + 1, k => k < 0 ∨ (k < len ∧ Ends rows len n (par rows k.toNat))
structure Good (rows : List (List C)) (len : Nat) : Prop where
  l1 : 1 ≤ len
  l2 : len ≤ 64
  pr : ∀ i, i < len → -1 ≤ par rows i ∧ par rows i < len
  en : ∀ i : Nat, i < len → Ends rows len (len + 1) i
def CheckP (rows : List (List C)) (len : Nat) (e : Ending) : Prop := ∃ n, e = .returned (.int .i64 n) ∧ (n = 0 → Good rows len)
def NT : List CT := [.str, .sl 201, .int .i64, .sl 3]
set_option maxRecDepth 100000 in
set_option maxHeartbeats 1000000 in
theorem check_ok (F : Nat → Prop) (w : World) (v : Value) (len cap : Nat) (rows : List (List C)) (hr : Rd F w (.sl 4 len cap rows) v) (ht : HtRows tab [.str, .sl 201, .int .i64, .sl 3] rows) (hF : ∀ k, F k → k < w.heap.size) (hnn : nodesRows rows ≤ 1099511627776) :
    Calls Tryz.prog 69 #[.agg #[v]] w fun e w' => CheckP rows len e ∧ Below w.heap.size w w' := by
  obtain ⟨a, b, o, rfl, h2, h3⟩ := row_at hr hF
  have HR := Lib.hid hr
  have H3 := Lib.hid h3
  have HT := Lib.hid ht
  have HF := Lib.hid hF
  have hlen : len ≤ 1099511627776 := by have := nodesRows_len rows; omega
  clear hr h3 ht hF
  by_cases hl1 : len < 1
  · go_enter Tryz.func69, Tryz.ntmps69
    have hl1' : (len : Int) < 1 := by omega
    go_wp2_with fail
    go_ret
    exact ⟨⟨8, rfl, fun h => by cases h⟩, (Below.refl _ _).alloc (Nat.le_refl _) _⟩
  · by_cases hl2 : 64 < len
    · have hl1' : decide ((len : Int) < 1) = false := by simp <;> omega
      have hl2' : (64 : Int) < (len : Int) := by omega
      go_enter Tryz.func69, Tryz.ntmps69
      go_wp2_with fail
      go_ret
      exact ⟨⟨8, rfl, fun h => by cases h⟩, (Below.refl _ _).alloc (Nat.le_refl _) _⟩
    · have hl1' : decide ((len : Int) < 1) = false := by simp <;> omega
      have hl2' : decide ((64 : Int) < (len : Int)) = false := by simp <;> omega
      go_enter Tryz.func69, Tryz.ntmps69
      go_wp2_with fail
      go_loopw [21] (fun x21 wr => ∃ i : Nat, i ≤ len ∧ x21 = .int .i64 i ∧ Below w.heap.size w wr ∧ w.heap.size < wr.heap.size ∧ wr.cell? ⟨w.heap.size, 0, none⟩ = some (Value.slice a len cap) ∧ ∀ j, j < i → -1 ≤ par rows j ∧ par rows j < len) (fun x21 _ => len - (intOf x21).toNat)
      case atStart => exact ⟨0, by omega, rfl, (Below.refl _ _).alloc (Nat.le_refl _) _, by rw [alloc_size]; omega, cell_of_row _ _ 0 _ _ _ (heap_alloc_new w _), fun j hj => by omega⟩
      case round =>
        obtain ⟨i, hi, rfl, hB, hsz, zz, hall⟩ := hrel
        by_cases hlt : i < len
        · have hri : rows[i]? = some (rows[i]'(by omega)) := List.getElem?_eq_getElem _
          generalize rows[i]'(by omega) = r at hri
          obtain ⟨rfl, hFb, hbl, hrd⟩ := H3.out i r hri
          obtain ⟨tag, at_, lat, kat, ats, p, ac, lc, cc, rc, rfl, hra, hta, hrc, htc, q0, q1, q2, q3⟩ := node_at hri HT.out hrd
          have p0 := (hB.cell (p := ⟨b, o + i * 4, none⟩) hbl).trans q0
          have p1 := (hB.cell (p := ⟨b, o + i * 4 + 1, none⟩) hbl).trans q1
          have p2 := (hB.cell (p := ⟨b, o + i * 4 + 2, none⟩) hbl).trans q2
          have p3 := (hB.cell (p := ⟨b, o + i * 4 + 3, none⟩) hbl).trans q3
          obtain ⟨W, hW⟩ : ∃ W, W = wr.alloc (Obj.cells #[Value.string tag, Value.slice at_ lat kat, Value.int .i64 p, Value.slice ac lc cc] 132) := ⟨_, rfl⟩
          have hb1 : Below w.heap.size w W := by rw [hW]; exact hB.alloc hB.size _
          have s1 : W.heap.size = wr.heap.size + 1 := by rw [hW, alloc_size]
          have y1 : W.heap[wr.heap.size]? = some (.cells #[Value.string tag, Value.slice at_ lat kat, Value.int .i64 p, Value.slice ac lc cc] 132 (0, 0)) := by rw [hW]; exact heap_alloc_new wr _
          have z1 : W.cell? ⟨w.heap.size, 0, none⟩ = some (Value.slice (some ⟨b, o, none⟩) len cap) := by rw [hW]; exact out_cell zz (Below.heap_alloc _ _ _ hsz)
          have z2 : W.cell? ⟨wr.heap.size, 1, none⟩ = some (Value.slice at_ lat kat) := cell_of_row _ _ 1 _ _ _ y1
          have hlat : lat ≤ 1099511627776 := by
            have h1 := nodesRow_at rows i _ hri
            simp only [nodesRow, nodes] at h1
            have h3 := nodesRows_len ats
            have h4 := hra
            simp only [Rd] at h4
            obtain ⟨_, _, h5, _⟩ := h4
            omega
          have hn := named_is tag W
          have hat := attributes_ok tab F W (.slice at_ lat kat) lat kat ats (Rd.mono (fun k hk => ⟨hk, hb1.block k (HF.out k hk)⟩) _ _ hra) hta (fun k hk => Nat.lt_of_lt_of_le (HF.out k hk) hb1.size) hlat
          have HN := Lib.hid hn
          have HA := Lib.hid hat
          have HB1 := Lib.hid hb1
          have HW := Lib.hid hW
          have HALL := Lib.hid hall
          have HS := Lib.hid (And.intro s1 hsz)
          clear hn hat hb1 hB hW hall q0 q1 q2 q3 hra hta hrc htc hrd s1
          go_wp2_with fail
          rw [← HW.out]
          refine HN.out.mono ?_
          rintro e w' ⟨rfl, hw'⟩
          rw [hw']
          clear hw'
          cases namedB tag with
          | false =>
            go_wp2_with fail
            go_ret
            exact ⟨⟨8, rfl, fun h => by cases h⟩, HB1.out⟩
          | true =>
            go_wp2_with fail
            refine HA.out.mono ?_
            rintro e w5 ⟨⟨bb, rfl⟩, hb5⟩
            have hb5' : Below w.heap.size w w5 := HB1.out.trans (hb5.mono HB1.out.size)
            have z5 : w5.cell? ⟨w.heap.size, 0, none⟩ = some (Value.slice (some ⟨b, o, none⟩) len cap) := out_cell z1 (hb5.block _ (by have := HS.out; omega))
            cases bb with
            | false =>
              go_wp2_with fail
              go_ret
              exact ⟨⟨8, rfl, fun h => by cases h⟩, hb5'⟩
            | true =>
              have hlk := linked_ok F w5 (.slice (some ⟨b, o, none⟩) len cap) len cap rows (Rd.mono (fun k hk => ⟨hk, hb5'.block k (HF.out k hk)⟩) _ _ HR.out) HT.out (fun k hk => Nat.lt_of_lt_of_le (HF.out k hk) hb5'.size) (by omega) (by omega) hnn i hlt
              have HLK := Lib.hid hlk
              have HB5 := Lib.hid hb5'
              have hs5 : w.heap.size < w5.heap.size := by have := hb5.size; have := HS.out; omega
              clear hlk hb5' hb5 z1 y1 z2
              go_wp2_with fail
              refine HLK.out.mono ?_
              rintro e w6 ⟨⟨bb, rfl, hbb⟩, hb6⟩
              have hb6' : Below w.heap.size w w6 := HB5.out.trans (hb6.mono HB5.out.size)
              have z6 : w6.cell? ⟨w.heap.size, 0, none⟩ = some (Value.slice (some ⟨b, o, none⟩) len cap) := out_cell z5 (hb6.block _ hs5)
              have HB6 := Lib.hid (And.intro hb6' (Nat.lt_of_lt_of_le hs5 hb6.size))
              have HBB := Lib.hid hbb
              clear hb6' hb6 hbb
              cases bb with
              | false =>
                go_wp2_with fail
                go_ret
                exact ⟨⟨8, rfl, fun h => by cases h⟩, HB6.out.1⟩
              | true =>
                go_wp2_with fail
                go_roundw
                case rel =>
                  refine ⟨i + 1, by omega, by go_num, HB6.out.1, HB6.out.2, z6, fun j hj => ?_⟩
                  by_cases hji : j = i
                  · subst hji; have := HBB.out (by first | trivial | rfl) _ hri; simp only [par, hri]; exact this
                  · exact HALL.out j (by omega)
                case measure => simp [intOf]; omega
        · have hie : len = i := by omega
          subst hie
          have HB := Lib.hid hB
          have HALL := Lib.hid hall
          clear hB hall
          go_wp2_with fail
          obtain ⟨WL, hWL⟩ : ∃ WL, WL = wr := ⟨wr, rfl⟩
          subst hWL
          go_loopw [46] (fun x46 wr => ∃ i : Nat, i ≤ len ∧ x46 = .int .i64 i ∧ wr = WL ∧ ∀ j : Nat, j < i → Ends rows len (len + 1) j) (fun x46 _ => len - (intOf x46).toNat)
          case atStart => exact ⟨0, by omega, rfl, rfl, fun j hj => by omega⟩
          case round =>
            obtain ⟨i, hi, rfl, rfl, hends⟩ := hrel
            by_cases hlt : i < len
            · have HE := Lib.hid hends
              clear hends
              go_wp2_with fail
              obtain ⟨WM, hWM⟩ : ∃ WM, WM = wr := ⟨wr, rfl⟩
              subst hWM
              go_loopw [6, 7] (fun x6 x7 wr => ∃ (n : Nat) (k : Int), n ≤ len ∧ x6 = .int .i64 n ∧ x7 = .int .i64 k ∧ wr = WM ∧ -1 ≤ k ∧ k < len ∧ (Ends rows len (len + 1 - n) k → Ends rows len (len + 1) i)) (fun x6 x7 _ => len - (intOf x6).toNat)
              case atStart => exact ⟨0, i, by omega, rfl, rfl, rfl, by omega, by omega, fun h => h⟩
              case round =>
                obtain ⟨n, k, hn, rfl, rfl, rfl, hk1, hk2, hch⟩ := hrel
                rcases Int.lt_or_le k 0 with hk | hk
                · have HCH := Lib.hid hch
                  clear hch
                  go_wp2_with fail
                  go_roundw
                  case rel =>
                    refine ⟨i + 1, by omega, by go_num, by first | trivial | rfl, fun j hj => ?_⟩
                    by_cases hji : j = i
                    · subst hji
                      refine HCH.out ?_
                      rw [show len + 1 - n = (len - n) + 1 from by omega]
                      exact .inl hk
                    · exact HE.out j (by omega)
                  case measure => simp [intOf]; omega
                · obtain ⟨kn, rfl⟩ := Int.eq_ofNat_of_zero_le hk
                  have HCH := Lib.hid hch
                  clear hch
                  by_cases hnl : n = len
                  · subst hnl
                    go_wp2_with fail
                    go_ret
                    exact ⟨⟨8, rfl, fun h => by cases h⟩, HB.out⟩
                  · have hnl2 : n + 1 ≤ len := by omega
                    have hrk : rows[kn]? = some (rows[kn]'(by omega)) := List.getElem?_eq_getElem _
                    generalize rows[kn]'(by omega) = rk at hrk
                    obtain ⟨_, _, hbl, hrd⟩ := H3.out kn rk hrk
                    obtain ⟨_, _, _, _, _, pp, _, _, _, _, rfl, _, _, _, _, _, _, n2, _⟩ := node_at hrk HT.out hrd
                    have hpp : par rows kn = pp := by simp only [par, hrk]; rfl
                    have q2 := (HB.out.cell (p := ⟨b, o + kn * 4 + 2, none⟩) hbl).trans n2
                    have hpr := HALL.out kn (by omega)
                    rw [hpp] at hpr
                    obtain ⟨g1, g2⟩ := hpr
                    have hgt : decide ((len : Int) < (n : Int) + 1) = false := by simp <;> omega
                    go_wp2_with fail
                    go_roundw
                    case rel =>
                      refine ⟨n + 1, pp, by omega, by go_num, rfl, by first | trivial | rfl, g1, g2, fun h => HCH.out ?_⟩
                      rw [show len + 1 - n = (len + 1 - (n + 1)) + 1 from by omega]
                      refine .inr ⟨by omega, ?_⟩
                      rw [Int.toNat_natCast, hpp]; exact h
                    case measure => simp [intOf]; omega
            · have hie : len = i := by omega
              subst hie
              have HE := Lib.hid hends
              clear hends
              go_wp2_with fail
              go_ret
              exact ⟨⟨0, rfl, fun _ => ⟨by omega, by omega, HALL.out, fun i hi => HE.out i hi⟩⟩, HB.out⟩
end Go.Proofs.YtgkamgijnhbcbaaGreatDoor
