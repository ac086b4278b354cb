/- tree.Add: a tree in new memory. -/
import Derived.Test.YtomnkglnbmnmpaaGreatDoorClones
import Derived.Test.YtomnkglnbmnmpaaGreatDoorClone
import Derived.WalkKit
import Derived.WalkSpells
import Derived.WalkLawsBesides
import Derived.Deep.RegionWith
import Derived.RegionTactic
import Derived.Deep.AppendLies
namespace Go.Proofs.YtomnkglnbmnmpaaGreatDoor
open Go.RowKit Go.Proofs
open Go.Vt
/-- A tree in new memory, and two numbers. -/
def AddedP (B m : Nat) (e : Ending) (w' : World) : Prop := ∃ v n k, e = .returned (.tuple #[.agg #[v], n, k]) ∧ NewTree B m w' v
theorem added_none {B m : Nat} {w' : World} {n k : Value} : AddedP B m (.returned (.tuple #[.agg #[.slice none 0 0], n, k])) w' :=
  ⟨_, n, k, rfl, 0, 0, [], by simp only [Rd]; exact ⟨none, rfl, by simp, by simp, .inl (by first | trivial | rfl)⟩, by simp [HtRows], by simp [nodesRows]⟩
set_option maxRecDepth 100000 in
set_option maxHeartbeats 4000000 in
theorem add_ok (F : Nat → Prop) (w : World) (a : Option Addr) (len cap : Nat) (rows : List (List C)) (s : ByteArray) (hr : Rd F w (.sl 4 len cap rows) (.slice a len cap)) (ht : HtRows tab [.str, .sl 116, .int .i64, .sl 3] rows) (hF : ∀ k, F k → k < w.heap.size) (hnn : nodesRows rows ≤ 1099511627776) (hs : s.size ≤ strMax) :
    Calls Tryz.prog 333 #[.agg #[.slice a len cap], .string s] w fun e w' => AddedP w.heap.size (nodesRows rows + 100) e w' ∧ Below w.heap.size w w' := by
  obtain ⟨i0, hi0, hz0, hz1, hz2⟩ := info_parts zinfo107
  obtain ⟨W0, hW0⟩ : ∃ W, W = (w.alloc (Obj.cells #[.slice a len cap] 24)).alloc (Obj.cells #[.slice none 0 0] 24) := ⟨_, rfl⟩
  have s0 : W0.heap.size = w.heap.size + 2 := by rw [hW0, alloc_size, alloc_size]
  have b0 : Below w.heap.size w W0 := by rw [hW0]; exact ((Below.refl _ _).alloc (Nat.le_refl _) _).alloc (by rw [alloc_size]; omega) _
  have x0 : W0.heap[w.heap.size]? = some (.cells #[.slice a len cap] 24 (0, 0)) := by rw [hW0]; exact (Below.heap_alloc _ _ _ (by rw [alloc_size]; omega)).trans (heap_alloc_new w _)
  have y0 : W0.heap[w.heap.size + 1]? = some (.cells #[.slice none 0 0] 24 (0, 0)) := by
    rw [hW0]; have := heap_alloc_new (w.alloc (Obj.cells #[.slice a len cap] 24)) (Obj.cells #[.slice none 0 0] 24); rwa [alloc_size] at this
  have r0 : Rd F W0 (.sl 4 len cap rows) (.slice a len cap) := Rd.mono (fun k hk => ⟨hk, b0.block k (hF k hk)⟩) _ _ hr
  have hc := check_ok F W0 (.slice a len cap) len cap rows r0 ht (fun k hk => by have := hF k hk; omega) hnn
  have c0 : W0.cell? ⟨w.heap.size, 0, none⟩ = some (.slice a len cap) := cell_of_row _ _ 0 _ _ _ x0
  have HC := Lib.hid hc
  have HW := Lib.hid hW0
  have HR := Lib.hid hr
  have HT := Lib.hid ht
  have HF := Lib.hid hF
  have HB0 := Lib.hid b0
  have HX := Lib.hid (And.intro x0 (And.intro y0 s0))
  clear hc hr ht hF b0 r0 x0 y0 s0 hW0
  go_enter Tryz.func333, Tryz.ntmps333
  go_wp2_with fail
  rw [← HW.out]
  go_wp2_with fail
  refine HC.out.mono ?_
  rintro e w1 ⟨⟨m, rfl, hm⟩, hb1⟩
  have hb := HB0.out.trans (hb1.mono HB0.out.size)
  have x1 : w1.heap[w.heap.size]? = some (.cells #[.slice a len cap] 24 (0, 0)) := (hb1.block _ (by have := HX.out.2.2; omega)).trans HX.out.1
  have y1 : w1.heap[w.heap.size + 1]? = some (.cells #[.slice none 0 0] 24 (0, 0)) := (hb1.block _ (by have := HX.out.2.2; omega)).trans HX.out.2.1
  have s1 : w.heap.size + 2 ≤ w1.heap.size := by have := HX.out.2.2; have := hb1.size; omega
  have ca : w1.cell? ⟨w.heap.size, 0, none⟩ = some (.slice a len cap) := cell_of_row _ _ 0 _ _ _ x1
  have cr : w1.cell? ⟨w.heap.size + 1, 0, none⟩ = some (.slice none 0 0) := cell_of_row _ _ 0 _ _ _ y1
  have fr : w1.frozen? ⟨w.heap.size + 1, 0, none⟩ = false := by simp [World.frozen?, y1]
  clear c0 HW HC HX hb1 HB0
  have HB := Lib.hid hb
  have HX := Lib.hid (And.intro x1 (And.intro y1 s1))
  have HM := Lib.hid hm
  clear hb x1 y1 s1 hm
  by_cases hm0 : m = 0
  case neg =>
    have hm1 : decide (m = 0) = false := by simp [hm0]
    go_wp2_with fail
    have e0 : (w1.setCell ⟨w.heap.size + 1, 0, none⟩ (.slice none 0 0)).cell? ⟨w.heap.size + 1, 0, none⟩ = some (.slice none 0 0) := cell_of_row _ _ 0 _ _ _ (setCell_one HX.out.2.1)
    refine bodyPost_ret (v := .tuple #[.agg #[.slice none 0 0], .int .i64 0, .int .i64 m]) (by simp [results, Tryz.results333, go_sem, e0]) rfl ⟨added_none, HB.out.setCell (by simp) _⟩
  case pos =>
    subst hm0
    go_wp2_with fail
    refine (named_is s w1).mono ?_
    rintro e w2 ⟨rfl, hw⟩
    obtain rfl := hw.symm
    cases namedB s with
    | false =>
      go_wp2_with fail
      have e0 : (w1.setCell ⟨w.heap.size + 1, 0, none⟩ (.slice none 0 0)).cell? ⟨w.heap.size + 1, 0, none⟩ = some (.slice none 0 0) := cell_of_row _ _ 0 _ _ _ (setCell_one HX.out.2.1)
      refine bodyPost_ret (v := .tuple #[.agg #[.slice none 0 0], .int .i64 0, .int .i64 2]) (by simp [results, Tryz.results333, go_sem, e0]) rfl ⟨added_none, HB.out.setCell (by simp) _⟩
    | true =>
      by_cases hl : len = 64
      case pos =>
        have hl1 : ((len : Int) == 64) = true := by subst hl; rfl
        go_wp2_with fail
        have e0 : (w1.setCell ⟨w.heap.size + 1, 0, none⟩ (.slice none 0 0)).cell? ⟨w.heap.size + 1, 0, none⟩ = some (.slice none 0 0) := cell_of_row _ _ 0 _ _ _ (setCell_one HX.out.2.1)
        refine bodyPost_ret (v := .tuple #[.agg #[.slice none 0 0], .int .i64 0, .int .i64 18]) (by simp [results, Tryz.results333, go_sem, e0]) rfl ⟨added_none, HB.out.setCell (by simp) _⟩
      case neg =>
        have hl1 : ((len : Int) == 64) = false := by simp; omega
        have hlt0 : w.heap.size < w1.heap.size := by have := HX.out.2.2; omega
        have hlt1 : w.heap.size + 1 < w1.heap.size := by have := HX.out.2.2; omega
        have hlen : len ≤ 64 := (HM.out (by first | trivial | rfl)).l2
        go_wp2_with fail
        go_loopw [29] (fun x29 wr => ∃ i : Nat, i ≤ len ∧ x29 = .int .i64 i ∧ Below w.heap.size w wr ∧ wr.heap[w.heap.size]? = some (.cells #[.slice a len cap] 24 (0, 0)) ∧ wr.heap[w.heap.size + 1]? = some (.cells #[.slice none 0 0] 24 (0, 0)) ∧ GrowAt tab [.str, .sl 116, .int .i64, .sl 3] 24 107 4 w1.heap.size (nodesRows (rows.take i)) i wr) (fun x29 _ => len - (intOf x29).toNat)
        case atStart => exact ⟨0, by omega, rfl, HB.out.alloc (by omega) _, (Below.heap_alloc _ _ _ hlt0).trans HX.out.1, (Below.heap_alloc _ _ _ hlt1).trans HX.out.2.1, GrowAt.start w1 24⟩
        case round =>
          obtain ⟨i, hi, rfl, hBr, xr, yr, hG⟩ := hrel
          have hGlt := hG.lt
          by_cases hlt : i < len
          case pos =>
            obtain ⟨a0, b, o, ha0, h2, h3⟩ := row_at HR.out HF.out
            obtain rfl : a0 = a := by injection ha0 with ha0; exact ha0.symm
            have hri : rows[i]? = some (rows[i]'(by omega)) := List.getElem?_eq_getElem _
            generalize rows[i]'(by omega) = r at hri
            obtain ⟨rfl, hFb, hbl, hrd⟩ := h3 i r hri
            obtain ⟨tag, at_, lat, kat, ats, p, ac, lc, cc, rc, rfl, hra, hta, hrc, htc, q0, q1, q2, q3⟩ := node_at hri HT.out hrd
            have p0 := (hBr.cell (p := ⟨b, o + i * 4, none⟩) hbl).trans q0
            have p1 := (hBr.cell (p := ⟨b, o + i * 4 + 1, none⟩) hbl).trans q1
            have p2 := (hBr.cell (p := ⟨b, o + i * 4 + 2, none⟩) hbl).trans q2
            have p3 := (hBr.cell (p := ⟨b, o + i * 4 + 3, none⟩) hbl).trans q3
            obtain ⟨V, hV⟩ : ∃ V, V = wr.alloc (Obj.cells #[Value.string tag, Value.slice at_ lat kat, Value.int .i64 p, Value.slice ac lc cc] 107) := ⟨_, rfl⟩
            have hn1 := nodesRow_at rows i _ hri
            have hlat : lat ≤ 1099511627776 ∧ lc ≤ 1099511627776 := by
              simp only [nodesRow, nodes] at hn1
              have g1 := nodesRows_len ats
              have g2 := nodesRows_len rc
              have h4 := hra
              have h5 := hrc
              simp only [Rd] at h4 h5
              obtain ⟨_, _, h6, _⟩ := h4
              obtain ⟨_, _, h7, _⟩ := h5
              omega
            have hbV : Below wr.heap.size wr V := by rw [hV]; exact (Below.refl _ _).alloc (Nat.le_refl _) _
            have sV : V.heap.size = wr.heap.size + 1 := by rw [hV, alloc_size]
            have tV : V.heap[wr.heap.size]? = some (.cells #[Value.string tag, Value.slice at_ lat kat, Value.int .i64 p, Value.slice ac lc cc] 107 (0, 0)) := by rw [hV]; exact heap_alloc_new wr _
            have hwV : Below w.heap.size w V := hBr.trans (hbV.mono hBr.size)
            have h34 : ∀ W, Below V.heap.size V W → Calls Tryz.prog 104 #[.slice at_ lat kat] W fun e w' => ∃ a1 c1, e = .returned (.slice a1 lat c1) ∧ Rd (Nw V.heap.size w') w' (.sl 2 lat c1 (ats.take lat)) (.slice a1 lat c1) ∧ Below V.heap.size V w' := by
              intro W hW
              have hwW : Below w.heap.size w W := hwV.trans (hW.mono (by have := hBr.size; omega))
              refine (clone_attrs F W _ lat kat ats (Rd.mono (fun k hk => ⟨hk, hwW.block k (HF.out k hk)⟩) _ _ hra) hta (fun k hk => Nat.lt_of_lt_of_le (HF.out k hk) hwW.size) hlat.1).mono ?_
              rintro e w' ⟨⟨v, c1, rfl, hv⟩, hb⟩
              have hv' := hv
              simp only [Rd] at hv'
              obtain ⟨a1, rfl, _⟩ := hv'
              exact ⟨a1, c1, rfl, Rd.mono (Nw.lower hW.size) _ _ hv, hW.trans (hb.mono hW.size)⟩
            have h35 : ∀ W, Below V.heap.size V W → Calls Tryz.prog 106 #[.slice ac lc cc] W fun e w' => ∃ a1 c1, e = .returned (.slice a1 lc c1) ∧ Rd (Nw V.heap.size w') w' (.sl 1 lc c1 (rc.take lc)) (.slice a1 lc c1) ∧ Below W.heap.size W w' := by
              intro W hW
              have hwW : Below w.heap.size w W := hwV.trans (hW.mono (by have := hBr.size; omega))
              refine (clone_ints F W _ lc cc rc (Rd.mono (fun k hk => ⟨hk, hwW.block k (HF.out k hk)⟩) _ _ hrc) htc (fun k hk => Nat.lt_of_lt_of_le (HF.out k hk) hwW.size) hlat.2).mono ?_
              rintro e w' ⟨⟨v, c1, rfl, hv⟩, hb⟩
              have hv' := hv
              simp only [Rd] at hv'
              obtain ⟨a1, rfl, _⟩ := hv'
              exact ⟨a1, c1, rfl, Rd.mono (Nw.lower hW.size) _ _ hv, hb⟩
            have vc1 : V.cell? ⟨wr.heap.size, 1, none⟩ = some (Value.slice at_ lat kat) := cell_of_row _ _ 1 _ _ _ tV
            have vc3 : V.cell? ⟨wr.heap.size, 3, none⟩ = some (Value.slice ac lc cc) := cell_of_row _ _ 3 _ _ _ tV
            have H34 := Lib.hid h34
            have H35 := Lib.hid h35
            have HV := Lib.hid hV
            have HBR := Lib.hid (And.intro hBr (And.intro xr (And.intro yr (And.intro hG (And.intro hri (And.intro hta htc))))))
            have HVV := Lib.hid (And.intro hwV (And.intro sV (And.intro tV hbV)))
            have HNN := Lib.hid hn1
            have gT : wr.heap.size < V.heap.size := by omega
            clear h34 h35 hV hBr xr yr hG hra hta hrc htc q0 q1 q2 q3 hrd hwV tV hbV sV hn1 h3
            go_wp2_with fail
            rw [← HV.out]
            go_region_with (first
              | (go_at_call 104; refine (H34.out _ ?_).mono ?_; (repeat (first | exact Below.refl _ _ | refine below_drew ?_ | refine below_drewN ?_ _)); rintro e w2 ⟨a1, c1, rfl, hv1, hb2⟩; have hT2 := (hb2.block _ gT).trans HVV.out.2.2.1; have vd3 : w2.cell? ⟨wr.heap.size, 3, none⟩ = some (Value.slice ac lc cc) := cell_of_row _ _ 3 _ _ _ hT2)
              | (go_at_call 106; refine (H35.out _ ?_).mono ?_; (repeat (first | exact hb2 | refine below_drew ?_ | refine below_drewN ?_ _)); rintro e w3 ⟨a3, c3, rfl, hv3, hb3⟩; have hT3 := (hb3.block _ (Nat.lt_of_lt_of_le gT hb2.size)).trans hT2; have ve1 : w3.cell? ⟨wr.heap.size, 1, none⟩ = some (Value.slice at_ lat kat) := cell_of_row _ _ 1 _ _ _ hT3; have ve3 : w3.cell? ⟨wr.heap.size, 3, none⟩ = some (Value.slice ac lc cc) := cell_of_row _ _ 3 _ _ _ hT3; have vf1 : w3.frozen? ⟨wr.heap.size, 1, none⟩ = false := (by simp [World.frozen?, hT3]); have vf3 : w3.frozen? ⟨wr.heap.size, 3, none⟩ = false := (by simp [World.frozen?, hT3])))
            all_goals
              have sw : wr.heap.size < V.heap.size := gT
              obtain ⟨W3, hW3⟩ : ∃ W, W = (w3.setCell ⟨wr.heap.size, 1, none⟩ (.slice a1 lat c1)).setCell ⟨wr.heap.size, 3, none⟩ (.slice a3 lc c3) := ⟨_, rfl⟩
              have hT4 : W3.heap[wr.heap.size]? = some (.cells #[Value.string tag, Value.slice a1 lat c1, Value.int .i64 p, Value.slice a3 lc c3] 107 (0, 0)) := by rw [hW3]; exact setCell_at (setCell_at hT3)
              have b3 : Below wr.heap.size wr W3 := by
                rw [hW3]
                exact ((HVV.out.2.2.2.trans ((hb2.trans (hb3.mono hb2.size)).mono (by omega))).setCell (Nat.le_refl _) _).setCell (Nat.le_refl _) _
              have rv1 : Rd (Nw V.heap.size W3) W3 (.sl 2 lat c1 (ats.take lat)) (.slice a1 lat c1) := by
                rw [hW3]; exact rd_stored (Rd.mono (fun k hk => nw_below hb3 hk) _ _ hv1) sw
              have rv3 : Rd (Nw V.heap.size W3) W3 (.sl 1 lc c3 (rc.take lc)) (.slice a3 lc c3) := by
                rw [hW3]; exact rd_stored hv3 sw
              obtain ⟨hBr, xr, yr, hG, hri, hta, htc⟩ := HBR.out
              obtain ⟨a4, c4, xs, rs, F4, k1, k2, k3, k4, k5, k6, k7, k8⟩ := hG.forms2 b3
              have bw3 : Below w.heap.size w W3 := hBr.trans (b3.mono hBr.size)
              have d4 : W3.cell? ⟨w1.heap.size, 0, none⟩ = some (.slice a4 i c4) := cell_of_row _ _ 0 _ _ _ k1
              have t0 : W3.cell? ⟨wr.heap.size, 0, none⟩ = some (.string tag) := cell_of_row _ _ 0 _ _ _ hT4
              have t1 : W3.cell? ⟨wr.heap.size, 1, none⟩ = some (.slice a1 lat c1) := cell_of_row _ _ 1 _ _ _ hT4
              have t2 : W3.cell? ⟨wr.heap.size, 2, none⟩ = some (.int .i64 p) := cell_of_row _ _ 2 _ _ _ hT4
              have t3 : W3.cell? ⟨wr.heap.size, 3, none⟩ = some (.slice a3 lc c3) := cell_of_row _ _ 3 _ _ _ hT4
              have g1 : w1.heap.size < W3.heap.size := Nat.lt_of_lt_of_le hGlt b3.size
              have g2 : wr.heap.size < W3.heap.size := (Array.getElem?_eq_some_iff.1 hT4).1
              have hD : ∀ X w5, (W3.alloc X).grownBy w5 (Value.slice a4 i c4).ownBlock → w5.heap[w1.heap.size]? = some (.cells #[.slice a4 i c4] 24 (0, 0)) := fun X w5 hg =>
                (hg.block _ (by rw [alloc_size]; omega) (fun e => by have := (k8 _ e.symm).1; omega)).trans ((Below.heap_alloc _ _ _ g1).trans k1)
              have hrest : ∀ (X : Obj) (w5 : World) (g cp : Nat), w5.ownsRow (w1.heap.size + 1) 107 4 (.slice (some ⟨g, 0, none⟩) (i + 1) cp) (i + 1) (xs ++ [.string tag, .slice a1 lat c1, .int .i64 p, .slice a3 lc c3]) → (W3.alloc X).grownBy w5 (Value.slice a4 i c4).ownBlock → ((Value.slice a4 i c4).ownBlock = some g ∨ g = (W3.alloc X).heap.size) →
                  Below w.heap.size w (w5.setCell ⟨w1.heap.size, 0, none⟩ (.slice (some ⟨g, 0, none⟩) (i + 1) cp)) ∧ (w5.setCell ⟨w1.heap.size, 0, none⟩ (.slice (some ⟨g, 0, none⟩) (i + 1) cp)).heap[w.heap.size]? = some (.cells #[.slice (some ⟨b, o, none⟩) len cap] 24 (0, 0)) ∧ (w5.setCell ⟨w1.heap.size, 0, none⟩ (.slice (some ⟨g, 0, none⟩) (i + 1) cp)).heap[w.heap.size + 1]? = some (.cells #[.slice none 0 0] 24 (0, 0)) ∧
                  GrowAt tab [.str, .sl 116, .int .i64, .sl 3] 24 107 4 w1.heap.size (nodesRows (rows.take (i + 1))) (i + 1) (w5.setCell ⟨w1.heap.size, 0, none⟩ (.slice (some ⟨g, 0, none⟩) (i + 1) cp)) := by
                intro X w5 g cp ho hg hor
                have hp := GrowAt.push (T := 24) (ts := [.str, .sl 116, .int .i64, .sl 3]) (tab := tab) (r := [.str tag, .sl 2 lat c1 (ats.take lat), .int .i64 p, .sl 1 lc c3 (rc.take lc)]) (us := [.string tag, .slice a1 lat c1, .int .i64 p, .slice a3 lc c3]) (F2 := Nw V.heap.size W3)
                  k1 k3 k4 k5 k6 k7 k2 (by simp only [RdVals, and_true]; exact ⟨by simp [Rd], rv1, by simp [Rd], rv3⟩) (fun k hk => ⟨(Nw.lower (by omega) k hk).1, fun e => by have := (k8 _ e).2; have := hk.1; omega⟩)
                  (by
                    have h1 := ht_at _ _ _ HT.out hri
                    simp only [HtRow, and_true] at h1 ⊢
                    refine ⟨h1.1, ?_, h1.2.2.1, ?_⟩
                    · simp only [Ht]; exact ⟨116, rfl, rfl, HtRows.take lat ats hta⟩
                    · simp only [Ht]; exact ⟨3, rfl, rfl, HtRows.take lc rc htc⟩)
                  ho hg hor
                have hb5 : Below (w.heap.size + 2) W3 (w5.setCell ⟨w1.heap.size, 0, none⟩ (.slice (some ⟨g, 0, none⟩) (i + 1) cp)) := hp.2 _ (by have := HX.out.2.2; omega)
                refine ⟨bw3.trans (hb5.mono (by omega)), (hb5.block _ (by omega)).trans ((b3.block _ (by omega)).trans xr), (hb5.block _ (by omega)).trans ((b3.block _ (by omega)).trans yr), hp.1.mono ?_⟩
                rw [take_nodes_succ hri]
                have e1 := take_nodes_le lat ats
                have e2 := take_nodes_le lc rc
                simp only [nodesRow, nodes]
                omega
              have HRE := Lib.hid hrest
              have HD := Lib.hid hD
              have HW3 := Lib.hid hW3
              clear hW3 hrest hD k3 k4 k5 k6 k7 k8 rv1 rv3 hT4 b3 bw3 hBr xr yr hG hri hta htc hb2 hb3 hv1 hv3 hT2 hT3 vd3 ve1 ve3 vf1 vf3 vc1 vc3 k1 p0 p1 p2 p3
              rw [← HW3.out]
              go_wp2_with (at_builtin; go_must (refine wpList_append_lies _ rfl _ _ 22 rfl (w1.heap.size + 1) 107 i0 _ 4 72 Tryz.underlying22 hi0 hz0 hz1 hz2 rfl (by decide) (.slice a4 i c4) i xs rfl (k2.alloc _) _ 1 1 [.string tag, .slice a1 lat c1, .int .i64 p, .slice a3 lc c3] rfl rfl (World.news_of_block (heap_alloc_new W3 _)) (by simp [Value.oneCell']) (by decide) (by simp [maxLen]; omega) (by omega) (by rw [alloc_size]; omega) _ rfl ?_; intro g cp w5 ho hg hor hlt5; have hd5 := HD.out _ _ hg; have hc5 : w5.cell? ⟨w1.heap.size, 0, none⟩ = some (.slice a4 i c4) := cell_of_row _ _ 0 _ _ _ hd5; have hf5 : w5.frozen? ⟨w1.heap.size, 0, none⟩ = false := (by simp [World.frozen?, hd5])))
              obtain ⟨e1, e2, e3, e4⟩ := HRE.out _ w5 g cp ho hg hor
              exact ⟨⟨i + 1, by omega, by go_num, e1, e2, e3, e4⟩, by simp [intOf]; omega⟩
          case neg =>
            obtain rfl : i = len := by omega
            obtain ⟨a4, c4, xs, rs, F4, k1, k2, k3, k4, k5, k6, k7, k8⟩ := hG.forms2 (Below.refl _ _)
            have d4 : wr.cell? ⟨w1.heap.size, 0, none⟩ = some (.slice a4 i c4) := cell_of_row _ _ 0 _ _ _ k1
            have ne1 : w.heap.size ≠ w1.heap.size := by omega
            have ne2 : w.heap.size + 1 ≠ w1.heap.size := by omega
            have hD : ∀ X w5, (wr.alloc X).grownBy w5 (Value.slice a4 i c4).ownBlock → w5.heap[w1.heap.size]? = some (.cells #[.slice a4 i c4] 24 (0, 0)) ∧ w5.heap[w.heap.size]? = some (.cells #[.slice a i cap] 24 (0, 0)) ∧ w5.heap[w.heap.size + 1]? = some (.cells #[.slice none 0 0] 24 (0, 0)) := fun X w5 hg =>
              ⟨(hg.block _ (by rw [alloc_size]; omega) (fun e => by have := (k8 _ e.symm).1; omega)).trans ((Below.heap_alloc _ _ _ hGlt).trans k1),
               (hg.block _ (by rw [alloc_size]; omega) (fun e => by have := (k8 _ e.symm).1; omega)).trans ((Below.heap_alloc _ _ _ (by omega)).trans xr),
               (hg.block _ (by rw [alloc_size]; omega) (fun e => by have := (k8 _ e.symm).1; omega)).trans ((Below.heap_alloc _ _ _ (by omega)).trans yr)⟩
            have hrest : ∀ (X : Obj) (w5 : World) (g cp : Nat), w5.ownsRow (w1.heap.size + 1) 107 4 (.slice (some ⟨g, 0, none⟩) (i + 1) cp) (i + 1) (xs ++ [.string s, .slice none 0 0, .int .i64 (-1), .slice none 0 0]) → (wr.alloc X).grownBy w5 (Value.slice a4 i c4).ownBlock → ((Value.slice a4 i c4).ownBlock = some g ∨ g = (wr.alloc X).heap.size) →
                Below w.heap.size w (w5.setCell ⟨w1.heap.size, 0, none⟩ (.slice (some ⟨g, 0, none⟩) (i + 1) cp)) ∧ GrowAt tab [.str, .sl 116, .int .i64, .sl 3] 24 107 4 w1.heap.size (nodesRows rows + 100) (i + 1) (w5.setCell ⟨w1.heap.size, 0, none⟩ (.slice (some ⟨g, 0, none⟩) (i + 1) cp)) := by
              intro X w5 g cp ho hg hor
              have hp := GrowAt.push (T := 24) (ts := [.str, .sl 116, .int .i64, .sl 3]) (tab := tab) (r := [.str s, .sl 2 0 0 [], .int .i64 (-1), .sl 1 0 0 []]) (us := [.string s, .slice none 0 0, .int .i64 (-1), .slice none 0 0]) (F2 := fun _ => False)
                k1 k3 k4 k5 k6 k7 k2 (by
                  simp only [RdVals, and_true]
                  refine ⟨by simp [Rd], ?_, by simp [Rd], ?_⟩
                  · simp only [Rd]; exact ⟨none, rfl, by simp, by simp, .inl (by first | trivial | rfl)⟩
                  · simp only [Rd]; exact ⟨none, rfl, by simp, by simp, .inl (by first | trivial | rfl)⟩) (fun k hk => hk.elim)
                (by
                  simp only [HtRow, Ht, and_true]
                  refine ⟨⟨by trivial, hs⟩, ?_, ⟨by trivial, by decide⟩, ?_⟩
                  all_goals exact ⟨_, rfl, rfl, by simp [HtRows]⟩)
                ho hg hor
              refine ⟨hBr.trans (hp.2 w.heap.size (by omega)), hp.1.mono ?_⟩
              have e1 := take_nodes_le i rows
              simp only [nodesRow, nodes, nodesRows]
              omega
            have HRE := Lib.hid hrest
            have HD := Lib.hid hD
            have hsr : w1.heap.size + 1 ≤ wr.heap.size := hGlt
            clear hrest hD k1 k3 k4 k5 k6 k7 k8 hBr xr yr hG
            go_wp2_with (at_builtin; go_must (refine wpList_append_lies _ rfl _ _ 22 rfl (w1.heap.size + 1) 107 i0 _ 4 72 Tryz.underlying22 hi0 hz0 hz1 hz2 rfl (by decide) (.slice a4 i c4) i xs rfl (k2.alloc _) _ 1 1 [.string s, .slice none 0 0, .int .i64 (-1), .slice none 0 0] rfl rfl (World.news_of_block (heap_alloc_new wr _)) (by simp [Value.oneCell']) (by decide) (by simp [maxLen]; omega) (by omega) (by rw [alloc_size]; omega) _ rfl ?_; intro g cp w5 ho hg hor hlt5; obtain ⟨hd5, ha5, hr5⟩ := HD.out _ _ hg; have hc5 : w5.cell? ⟨w1.heap.size, 0, none⟩ = some (.slice a4 i c4) := cell_of_row _ _ 0 _ _ _ hd5; have hf5 : w5.frozen? ⟨w1.heap.size, 0, none⟩ = false := (by simp [World.frozen?, hd5]); have hca5 : w5.cell? ⟨w.heap.size, 0, none⟩ = some (.slice a i cap) := cell_of_row _ _ 0 _ _ _ ha5; have hcr5 : w5.cell? ⟨w.heap.size + 1, 0, none⟩ = some (.slice none 0 0) := cell_of_row _ _ 0 _ _ _ hr5; have hfr5 : w5.frozen? ⟨w.heap.size + 1, 0, none⟩ = false := (by simp [World.frozen?, hr5])))
            go_region
            go_wp2_with fail
            obtain ⟨e1, e2⟩ := HRE.out _ w5 g cp ho hg hor
            obtain ⟨W6, hW6⟩ : ∃ W, W = w5.setCell ⟨w1.heap.size, 0, none⟩ (.slice (some ⟨g, 0, none⟩) (i + 1) cp) := ⟨_, rfl⟩
            have hd6 : W6.heap[w1.heap.size]? = some (.cells #[.slice (some ⟨g, 0, none⟩) (i + 1) cp] 24 (0, 0)) := by rw [hW6]; exact setCell_one hd5
            have hr6 : W6.heap[w.heap.size + 1]? = some (.cells #[.slice none 0 0] 24 (0, 0)) := by rw [hW6]; exact (Below.heap_setCell _ _ _ _ ne2).trans hr5
            rw [← hW6] at e1 e2 ⊢
            have f0 : (W6.setCell ⟨w.heap.size + 1, 0, none⟩ (.slice (some ⟨g, 0, none⟩) (i + 1) cp)).drew.cell? ⟨w.heap.size + 1, 0, none⟩ = some (.slice (some ⟨g, 0, none⟩) (i + 1) cp) := cell_of_row _ _ 0 _ _ _ (show (W6.setCell ⟨w.heap.size + 1, 0, none⟩ (.slice (some ⟨g, 0, none⟩) (i + 1) cp)).heap[w.heap.size + 1]? = _ from setCell_one hr6)
            obtain ⟨v, len', cap', rows', m1, m2, m3, m4⟩ := e2.done (W := (W6.setCell ⟨w.heap.size + 1, 0, none⟩ (.slice (some ⟨g, 0, none⟩) (i + 1) cp)).drew) (by rfl) (B := w.heap.size) (by omega) (fun k hk1 hk2 => Below.heap_setCell _ _ _ _ (by show k ≠ w.heap.size + 1; omega)) (by show W6.heap.size ≤ (W6.setCell ⟨w.heap.size + 1, 0, none⟩ (.slice (some ⟨g, 0, none⟩) (i + 1) cp)).heap.size; rw [setCell_size]; exact Nat.le_refl _)
            obtain rfl : v = .slice (some ⟨g, 0, none⟩) (i + 1) cp := by rw [hd6] at m1; simpa using m1.symm
            refine bodyPost_ret (v := .tuple #[.agg #[.slice (some ⟨g, 0, none⟩) (i + 1) cp], .int .i64 i, .int .i64 0]) (by simp [results, Tryz.results333, go_sem, f0]) rfl ⟨⟨_, _, _, rfl, len', cap', rows', m2, m3, m4⟩, below_drew (e1.setCell (by simp) _)⟩
end Go.Proofs.YtomnkglnbmnmpaaGreatDoor
