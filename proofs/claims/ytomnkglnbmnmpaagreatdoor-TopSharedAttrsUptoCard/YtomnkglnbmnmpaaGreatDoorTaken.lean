/- mutate.taken: a tree in new memory from which one node is taken. -/
import Derived.Test.YtomnkglnbmnmpaaGreatDoorNumbers
import Derived.Test.YtomnkglnbmnmpaaGreatDoorClone
import Derived.Test.YtomnkglnbmnmpaaGreatDoorClones
import Derived.WalkKit
import Derived.WalkSpells
import Derived.WalkLawsBesides
import Derived.Deep.AppendLies
namespace Go.Proofs.YtomnkglnbmnmpaaGreatDoor
open Go.RowKit Go.Vt Go.Proofs
/-- A tree of one's own: len nodes in block g, in new memory, m values of data at the most. -/
def OwnTree (B m len g c : Nat) (w : World) : Prop := ∃ (xs : List Value) (F J : Nat → Prop), w.ownsRow B 107 4 (.slice (some ⟨g, 0, none⟩) len c) len xs ∧ NodesV tab 116 3 F J w len m xs ∧ (∀ k, F k → Nw B w k ∧ k ≠ g) ∧ (∀ k, J k → (B ≤ k ∧ k < w.heap.size) ∧ k ≠ g) ∧ ∀ k, F k → ¬ J k
theorem kids_nodes : ∀ (rs : List (List C)), HtRows tab [.int .i64] rs → nodesRows rs = 2 * rs.length
  | [], _ => by simp [nodesRows]
  | r :: rs, h => by
    simp only [HtRows] at h
    obtain ⟨c0, cs0, rfl, k0, k1⟩ := h.1.cons
    obtain rfl := k1.nil
    have := kids_nodes rs h.2
    have h1 : nodes c0 = 1 := by cases c0 <;> simp [Ht, nodes] at k0 ⊢
    simp only [nodesRows, nodesRow, h1, List.length_cons]
    omega
set_option maxRecDepth 100000 in
set_option maxHeartbeats 4000000 in
theorem taken_ok (F : Nat → Prop) (w : World) (a : Option Addr) (len cap ch : Nat) (rows : List (List C)) (hr : Rd F w (.sl 4 len cap rows) (.slice a len cap)) (ht : HtRows tab [.str, .sl 116, .int .i64, .sl 3] rows) (hF : ∀ k, F k → k < w.heap.size) (hnn : nodesRows rows ≤ 1099511627776) (hlen : len ≤ 64) (hch : ch < len) :
    Calls Tryz.prog 77 #[.agg #[.slice a len cap], .int .i64 ch] w fun e w' => (∃ g c, e = .returned (.agg #[.slice (some ⟨g, 0, none⟩) len c]) ∧ OwnTree w.heap.size (nodesRows rows + 64) len g c w') ∧ Below w.heap.size w w' := by
  obtain ⟨i0, hi0, hz0, hz1, hz2⟩ := info_parts zinfo107
  obtain ⟨a0, b, o, ha0, h2, h3⟩ := row_at hr hF
  obtain rfl : a0 = a := by injection ha0 with ha0; exact ha0.symm
  have hr0 : rows[0]? = some (rows[0]'(by omega)) := List.getElem?_eq_getElem _
  obtain ⟨rfl, _⟩ := h3 0 _ hr0
  obtain ⟨W1, hW1⟩ : ∃ W, W = (((w.alloc (Obj.cells #[.slice (some ⟨b, o, none⟩) len cap] 24)).alloc (Obj.cells #[.int .i64 ch] 3)).alloc (Obj.cells #[.slice none 0 0] 24)) := ⟨_, rfl⟩
  have s1 : W1.heap.size = w.heap.size + 3 := by rw [hW1, alloc_size, alloc_size, alloc_size]
  have b1 : Below w.heap.size w W1 := by rw [hW1]; exact (((Below.refl _ _).alloc (Nat.le_refl _) _).alloc (by rw [alloc_size]; omega) _).alloc (by rw [alloc_size, alloc_size]; omega) _
  have x1 : W1.heap[w.heap.size]? = some (.cells #[.slice (some ⟨b, o, none⟩) len cap] 24 (0, 0)) := by rw [hW1]; exact (Below.heap_alloc _ _ _ (by rw [alloc_size, alloc_size]; omega)).trans ((Below.heap_alloc _ _ _ (by rw [alloc_size]; omega)).trans (heap_alloc_new w _))
  have y1 : W1.heap[w.heap.size + 1]? = some (.cells #[.int .i64 ch] 3 (0, 0)) := by
    rw [hW1]; refine (Below.heap_alloc _ _ _ (by rw [alloc_size, alloc_size]; omega)).trans ?_
    have := heap_alloc_new (w.alloc (Obj.cells #[.slice (some ⟨b, o, none⟩) len cap] 24)) (Obj.cells #[.int .i64 ch] 3); rwa [alloc_size] at this
  have z1 : W1.heap[w.heap.size + 2]? = some (.cells #[.slice none 0 0] 24 (0, 0)) := by
    rw [hW1]; have := heap_alloc_new ((w.alloc (Obj.cells #[.slice (some ⟨b, o, none⟩) len cap] 24)).alloc (Obj.cells #[.int .i64 ch] 3)) (Obj.cells #[.slice none 0 0] 24); rwa [alloc_size, alloc_size] at this
  have c1 : W1.cell? ⟨w.heap.size, 0, none⟩ = some (.slice (some ⟨b, o, none⟩) len cap) := cell_of_row _ _ 0 _ _ _ x1
  have l1 : w.heap.size < W1.heap.size := by omega
  have HR := Lib.hid hr
  have HT := Lib.hid ht
  have HF := Lib.hid hF
  have H3 := Lib.hid h3
  have HW1 := Lib.hid hW1
  have HB1 := Lib.hid b1
  have HX := Lib.hid (And.intro x1 (And.intro y1 (And.intro z1 s1)))
  clear hr ht hF h3 hW1 b1 x1 y1 z1 s1 hr0 ha0
  go_enter Tryz.func77, Tryz.ntmps77
  go_wp2_with fail
  rw [← HW1.out]
  go_wp2_with fail
  go_loopw [11] (fun x11 wr => ∃ i : Nat, i ≤ len ∧ x11 = .int .i64 i ∧ Below W1.heap.size W1 wr ∧ GrowK tab 116 3 24 107 W1.heap.size (nodesRows (rows.take i) + i) i wr) (fun x11 _ => len - (intOf x11).toNat)
  case atStart => exact ⟨0, by omega, rfl, (Below.refl _ _).alloc (Nat.le_refl _) _, by simpa [nodesRows] using GrowK.start W1 24⟩
  case round =>
    obtain ⟨i, hi, rfl, hBr, hG⟩ := hrel
    have hGlt := hG.lt
    have hsW := HX.out.2.2.2
    have hS : W1.heap.size = w.heap.size + 1 + 1 + 1 := hsW
    by_cases hlt : i < len
    case pos =>
      have hri : rows[i]? = some (rows[i]'(by omega)) := List.getElem?_eq_getElem _
      generalize rows[i]'(by omega) = r at hri
      obtain ⟨_, hFb, hbl, hrd⟩ := H3.out i r hri
      obtain ⟨tag, at_, lat, kat, ats, p, ac, lc, cc, rc, rfl, hra, hta, hrc, htc, q0, q1, q2, q3⟩ := node_at hri HT.out hrd
      have hBw : Below w.heap.size w wr := HB1.out.trans (hBr.mono HB1.out.size)
      have p0 := (hBw.cell (p := ⟨b, o + i * 4, none⟩) hbl).trans q0
      have p1 := (hBw.cell (p := ⟨b, o + i * 4 + 1, none⟩) hbl).trans q1
      have p2 := (hBw.cell (p := ⟨b, o + i * 4 + 2, none⟩) hbl).trans q2
      have p3 := (hBw.cell (p := ⟨b, o + i * 4 + 3, none⟩) hbl).trans q3
      obtain ⟨V, hV⟩ : ∃ V, V = wr.alloc (Obj.cells #[Value.string tag, Value.slice at_ lat kat, Value.int .i64 p, Value.slice ac lc cc] 107) := ⟨_, rfl⟩
      have hn1 := nodesRow_at rows i _ hri
      have hlat : lat ≤ 1099511627776 ∧ lc ≤ 1099511627776 ∧ lc ≤ rc.length := by
        simp only [nodesRow, nodes] at hn1
        have g1 := nodesRows_len ats
        have g2 := nodesRows_len rc
        have h4 := hra
        have h5 := hrc
        simp only [Rd] at h4 h5
        obtain ⟨_, _, h6, _⟩ := h4
        obtain ⟨_, _, h7, _⟩ := h5
        omega
      have hbV : Below wr.heap.size wr V := by rw [hV]; exact (Below.refl _ _).alloc (Nat.le_refl _) _
      have sV : V.heap.size = wr.heap.size + 1 := by rw [hV, alloc_size]
      have tV : V.heap[wr.heap.size]? = some (.cells #[Value.string tag, Value.slice at_ lat kat, Value.int .i64 p, Value.slice ac lc cc] 107 (0, 0)) := by rw [hV]; exact heap_alloc_new wr _
      have hwV : Below w.heap.size w V := hBw.trans (hbV.mono hBw.size)
      have h34 := clone_attrs F V _ lat kat ats (Rd.mono (fun k hk => ⟨hk, hwV.block k (HF.out k hk)⟩) _ _ hra) hta (fun k hk => Nat.lt_of_lt_of_le (HF.out k hk) hwV.size) hlat.1
      have vc1 : V.cell? ⟨wr.heap.size, 1, none⟩ = some (Value.slice at_ lat kat) := cell_of_row _ _ 1 _ _ _ tV
      have H34 := Lib.hid h34
      have HV := Lib.hid hV
      have HBR := Lib.hid (And.intro hBr (And.intro hG (And.intro hri (And.intro hta (And.intro htc hrc)))))
      have HVV := Lib.hid (And.intro hwV (And.intro sV (And.intro tV hbV)))
      have gT : wr.heap.size < V.heap.size := by omega
      have HNN := Lib.hid hn1
      clear h34 hV hBr hG hra hta htc hrc q0 q1 q2 q3 hrd hwV tV hbV sV hn1 hBw
      go_wp2_with fail
      rw [← HV.out]
      go_wp2_with fail
      refine H34.out.mono ?_
      rintro e w2 ⟨⟨v1, c1', rfl, hv1⟩, hb2⟩
      obtain ⟨a1, hv1e⟩ : ∃ a1, v1 = .slice a1 lat c1' := by have h := hv1; simp only [Rd] at h; obtain ⟨a1, h, _⟩ := h; exact ⟨a1, h⟩
      subst hv1e
      have hT2 := (hb2.block _ gT).trans HVV.out.2.2.1
      have vd1 : w2.cell? ⟨wr.heap.size, 1, none⟩ = some (Value.slice at_ lat kat) := cell_of_row _ _ 1 _ _ _ hT2
      have vf1 : w2.frozen? ⟨wr.heap.size, 1, none⟩ = false := by simp [World.frozen?, hT2]
      have vd3 : w2.cell? ⟨wr.heap.size, 3, none⟩ = some (Value.slice ac lc cc) := cell_of_row _ _ 3 _ _ _ hT2
      obtain ⟨W2, hW2⟩ : ∃ W, W = w2.setCell ⟨wr.heap.size, 1, none⟩ (.slice a1 lat c1') := ⟨_, rfl⟩
      have hT3 : W2.heap[wr.heap.size]? = some (.cells #[Value.string tag, Value.slice a1 lat c1', Value.int .i64 p, Value.slice ac lc cc] 107 (0, 0)) := by rw [hW2]; exact setCell_at hT2
      have b2 : Below wr.heap.size wr W2 := by rw [hW2]; exact (HVV.out.2.2.2.trans (hb2.mono (by omega))).setCell (Nat.le_refl _) _
      have sW2 : W2.heap.size = w2.heap.size := by rw [hW2, setCell_size]
      obtain ⟨hBr, hG, hri, hta, htc, hrc⟩ := HBR.out
      have hBw2 : Below w.heap.size w W2 := (HB1.out.trans (hBr.mono HB1.out.size)).trans (b2.mono (by have := hBr.size; omega))
      have h35 := clone_kids F W2 _ lc cc rc (Rd.mono (fun k hk => ⟨hk, hBw2.block k (HF.out k hk)⟩) _ _ hrc) htc hlat.2.1
      have ve3 : W2.cell? ⟨wr.heap.size, 3, none⟩ = some (Value.slice ac lc cc) := cell_of_row _ _ 3 _ _ _ hT3
      have H35 := Lib.hid h35
      have HW2 := Lib.hid hW2
      have hv1' : Rd (Nw V.heap.size W2) W2 (.sl 2 lat c1' (ats.take lat)) (.slice a1 lat c1') := by
        rw [hW2]
        refine Rd.mono (fun k hk => ?_) _ _ hv1
        obtain ⟨e1, e2, cc', e, e3⟩ := hk
        have hk : (w2.setCell ⟨wr.heap.size, 1, none⟩ (.slice a1 lat c1')).heap[k]? = w2.heap[k]? := Below.heap_setCell _ _ _ _ (by show k ≠ wr.heap.size; omega)
        exact ⟨⟨e1, by rw [setCell_size]; exact e2, cc', e, hk.trans e3⟩, hk⟩
      have HV1 := Lib.hid (And.intro hv1' (And.intro hT3 (And.intro b2 sW2)))
      have gV : V.heap.size ≤ W2.heap.size := by rw [sW2]; exact hb2.size
      clear h35 hW2 hv1 hv1' hT3 b2 hBr hG hri hta htc hrc hBw2 sW2 hb2 hT2
      go_wp2_with fail
      rw [← HW2.out]
      go_wp2_with fail
      refine H35.out.mono ?_
      rintro e w3 ⟨⟨v3, rfl, hv3⟩, hb3⟩
      obtain ⟨a3, l3, c3, hv3e⟩ : ∃ a3 l3 c3, v3 = .slice a3 l3 c3 := by
        rcases hv3 with ⟨h, _⟩ | ⟨g, c, h, _⟩
        · exact ⟨_, _, _, h⟩
        · exact ⟨_, _, _, h⟩
      subst hv3e
      obtain ⟨hv1', hT3, b2, sW2⟩ := HV1.out
      have yw3 : w3.heap[w.heap.size + 1]? = some (.cells #[.int .i64 ch] 3 (0, 0)) := by
        have e1 := HBR.out.1.block (w.heap.size + 1) (by omega)
        have e2 := b2.block (w.heap.size + 1) (by omega)
        have e3 := hb3.block (w.heap.size + 1) (by omega)
        exact e3.trans (e2.trans (e1.trans HX.out.2.1))
      have cw3 : w3.cell? ⟨w.heap.size + 1, 0, none⟩ = some (.int .i64 ch) := cell_of_row _ _ 0 _ _ _ yw3
      have h36 := delete_kids w3 _ W2.heap.size lc (w.heap.size + 1) ch hb3.size hv3 (by omega) hlat.2.1 cw3
      have hT3' : w3.heap[wr.heap.size]? = _ := (hb3.block _ (by omega)).trans hT3
      have H36 := Lib.hid h36
      have HB3 := Lib.hid (And.intro hb3 hT3')
      clear h36 hv3 hv1' hT3 b2 sW2 yw3 hb3 hT3'
      go_wp2_with fail
      refine H36.out.mono ?_
      rintro e w4 ⟨a4, m4, c4, rfl, hm4, hk4, hb4⟩
      obtain ⟨hv1', hT3, b2, sW2⟩ := HV1.out
      have hT4 : w4.heap[wr.heap.size]? = some (.cells #[Value.string tag, Value.slice a1 lat c1', Value.int .i64 p, Value.slice ac lc cc] 107 (0, 0)) := (hb4.block _ (by omega)).trans HB3.out.2
      have vg3 : w4.cell? ⟨wr.heap.size, 3, none⟩ = some (Value.slice ac lc cc) := cell_of_row _ _ 3 _ _ _ hT4
      have vg4 : w4.frozen? ⟨wr.heap.size, 3, none⟩ = false := by simp [World.frozen?, hT4]
      obtain ⟨W4, hW4⟩ : ∃ W, W = w4.setCell ⟨wr.heap.size, 3, none⟩ (.slice a4 m4 c4) := ⟨_, rfl⟩
      have hT5 : W4.heap[wr.heap.size]? = some (.cells #[Value.string tag, Value.slice a1 lat c1', Value.int .i64 p, Value.slice a4 m4 c4] 107 (0, 0)) := by rw [hW4]; exact setCell_at hT4
      have hb24 : Below W2.heap.size W2 w4 := HB3.out.1.trans hb4
      have b4 : Below wr.heap.size wr W4 := by rw [hW4]; exact (b2.trans (hb24.mono (by omega))).setCell (Nat.le_refl _) _
      have keep4 : ∀ k, k ≠ wr.heap.size → W4.heap[k]? = w4.heap[k]? := fun k hk => by rw [hW4]; exact Below.heap_setCell _ _ _ _ hk
      have size4 : W4.heap.size = w4.heap.size := by rw [hW4, setCell_size]
      have rv1 : Rd (fun k => Nw V.heap.size W4 k ∧ k < W2.heap.size) W4 (.sl 2 lat c1' (ats.take lat)) (.slice a1 lat c1') := by
        refine Rd.mono (fun k hk => ?_) _ _ hv1'
        obtain ⟨e1, e2, cc', e, e3⟩ := hk
        have hk : W4.heap[k]? = W2.heap[k]? := (keep4 k (by omega)).trans (hb24.block k e2)
        exact ⟨⟨⟨e1, by rw [size4]; have := hb24.size; omega, cc', e, hk.trans e3⟩, e2⟩, hk⟩
      have rv3 : KidV (fun k => Nw V.heap.size W4 k ∧ W2.heap.size ≤ k) W4 3 (.slice a4 m4 c4) m4 := by
        refine hk4.mono (fun k hk => ?_)
        obtain ⟨e1, e2, cc', e, e3⟩ := hk
        have hk : W4.heap[k]? = w4.heap[k]? := keep4 k (by omega)
        exact ⟨⟨⟨by omega, by rw [size4]; exact e2, cc', e, hk.trans e3⟩, e1⟩, fun _ _ hi => hi.keep hk⟩
      obtain ⟨hBr, hG, hri, hta, htc, hrc⟩ := HBR.out
      obtain ⟨aG, cG, xs, F4, J4, hP⟩ := hG.parts b4
      have k1 := hP.hd
      have k2 := hP.own
      have k5 := fun k hk => (hP.hu k).1 hk
      have d4 : w4.cell? ⟨w.heap.size + 1 + 1 + 1, 0, none⟩ = some (.slice aG i cG) := by rw [← hS]; exact cell_of_row _ _ 0 _ _ _ ((keep4 _ (by omega)).symm.trans k1)
      have t0 : w4.cell? ⟨wr.heap.size, 0, none⟩ = some (.string tag) := cell_of_row _ _ 0 _ _ _ hT4
      have t1 : w4.cell? ⟨wr.heap.size, 1, none⟩ = some (.slice a1 lat c1') := cell_of_row _ _ 1 _ _ _ hT4
      have t2 : w4.cell? ⟨wr.heap.size, 2, none⟩ = some (.int .i64 p) := cell_of_row _ _ 2 _ _ _ hT4
      have dne : w.heap.size + 1 + 1 + 1 ≠ wr.heap.size := by omega
      have g1 : W1.heap.size < W4.heap.size := Nat.lt_of_lt_of_le hGlt b4.size
      have g2 : wr.heap.size < W4.heap.size := (Array.getElem?_eq_some_iff.1 hT5).1
      have hD : ∀ X w5, (W4.alloc X).grownBy w5 (Value.slice aG i cG).ownBlock → w5.heap[W1.heap.size]? = some (.cells #[.slice aG i cG] 24 (0, 0)) := fun X w5 hg =>
        (hg.block _ (by rw [alloc_size]; omega) (fun e => by have := (k5 _ e.symm).1; omega)).trans ((Below.heap_alloc _ _ _ g1).trans k1)
      have hrest : ∀ (X : Obj) (w5 : World) (g cp : Nat), w5.ownsRow (W1.heap.size + 1) 107 4 (.slice (some ⟨g, 0, none⟩) (i + 1) cp) (i + 1) (xs ++ [.string tag, .slice a1 lat c1', .int .i64 p, .slice a4 m4 c4]) → (W4.alloc X).grownBy w5 (Value.slice aG i cG).ownBlock → ((Value.slice aG i cG).ownBlock = some g ∨ g = (W4.alloc X).heap.size) →
          Below W1.heap.size W1 (w5.setCell ⟨W1.heap.size, 0, none⟩ (.slice (some ⟨g, 0, none⟩) (i + 1) cp)) ∧ GrowK tab 116 3 24 107 W1.heap.size (nodesRows (rows.take (i + 1)) + (i + 1)) (i + 1) (w5.setCell ⟨W1.heap.size, 0, none⟩ (.slice (some ⟨g, 0, none⟩) (i + 1) cp)) := by
        intro X w5 g cp ho hg hor
        have h1 := ht_at _ _ _ HT.out hri
        simp only [HtRow, and_true] at h1
        have hp := GrowP.push (T := 24) (tab := tab) (A := 116) (I := 3) (us := [.string tag, .slice a1 lat c1', .int .i64 p, .slice a4 m4 c4]) (F2 := fun k => Nw V.heap.size W4 k ∧ k < W2.heap.size) (J2 := fun k => Nw V.heap.size W4 k ∧ W2.heap.size ≤ k) (q := 6 + nodesRows (ats.take lat) + 2 * m4)
          hP ⟨tag, _, p, _, lat, c1', m4, ats.take lat, rfl, by have := h1.1; simp only [Ht] at this; exact this.2, by have := h1.2.2.1; simp only [Ht] at this; exact this.2, rv1, HtRows.take lat ats hta, rv3, Nat.le_refl _⟩
          (fun k hk => ⟨(Nw.lower (by omega) k hk.1).1, by have := hk.1.1; omega⟩) (fun k hk => ⟨(Nw.lower (by omega) k hk.1).1, by have := hk.1.1; omega⟩) (fun k hk hj => by have := hk.2; have := hj.2; omega) ho hg hor
        have hb5 := hp.2 W1.heap.size (Nat.le_refl _)
        refine ⟨(hBr.trans (b4.mono (by omega))).trans hb5, hp.1.more ?_⟩
        rw [take_nodes_succ hri]
        have e1 := take_nodes_le lat ats
        have e2 := kids_nodes rc htc
        have e3 := hlat.2.2
        simp only [nodesRow, nodes, e2]
        omega
      have HRE := Lib.hid hrest
      have HD := Lib.hid hD
      have HW4 := Lib.hid hW4
      have HS4 := Lib.hid size4
      clear hW4 hrest hD hP k5 rv1 rv3 hT5 b4 hBr hG hri hta htc hrc hb4 hb24 hk4 hT4 k1 p0 p1 p2 p3 hv1' hT3 b2 sW2 keep4 size4 vd1 vf1 vd3 vc1 ve3 cw3
      go_wp2_with (at_builtin; rw [← HW4.out]; go_must (refine wpList_append_lies _ rfl _ _ 22 rfl (W1.heap.size + 1) 107 i0 _ 4 72 Tryz.underlying22 hi0 hz0 hz1 hz2 rfl (by decide) (.slice aG i cG) i xs rfl (k2.alloc _) _ 1 1 [.string tag, .slice a1 lat c1', .int .i64 p, .slice a4 m4 c4] rfl rfl (World.news_of_block (by rw [← HS4.out]; exact heap_alloc_new W4 _)) (by simp [Value.oneCell']) (by decide) (by simp [maxLen]; omega) (by omega) (by rw [alloc_size]; omega) _ rfl ?_; intro g cp w5 ho hg hor hlt5; have hd5 := HD.out _ _ hg; have hc5 : w5.cell? ⟨w.heap.size + 1 + 1 + 1, 0, none⟩ = some (.slice aG i cG) := (by rw [← hS]; exact cell_of_row _ _ 0 _ _ _ hd5); have hf5 : w5.frozen? ⟨w.heap.size + 1 + 1 + 1, 0, none⟩ = false := (by rw [← hS]; simp [World.frozen?, hd5])))
      obtain ⟨e1, e2⟩ := HRE.out _ w5 g cp ho hg hor
      rw [← hS]
      exact ⟨⟨i + 1, by omega, by go_num, e1, e2⟩, by simp [intOf]; omega⟩
    case neg =>
      obtain rfl : i = len := by omega
      obtain ⟨aG, cG, xs, F4, J4, hP⟩ := hG.parts (Below.refl _ _)
      have k1 := hP.hd
      have k2 := hP.own
      have k3 := hP.ns
      have k5 := fun k hk => (hP.hu k).1 hk
      have d4 : wr.cell? ⟨w.heap.size + 1 + 1 + 1, 0, none⟩ = some (.slice aG i cG) := by rw [← hS]; exact cell_of_row _ _ 0 _ _ _ k1
      have c2 : wr.cell? ⟨w.heap.size + 1, 0, none⟩ = some (.int .i64 ch) := cell_of_row _ _ 0 _ _ _ ((hBr.block _ (by omega)).trans HX.out.2.1)
      obtain ⟨g, rfl⟩ : ∃ g, aG = some ⟨g, 0, none⟩ := by
        rcases k2.2 with ⟨h, h0⟩ | ⟨g, cap', cur, h, _⟩
        · omega
        · injection h with h; exact ⟨g, h⟩
      obtain ⟨pre, us, post, q, n1, n2, n3, n4, n5⟩ := NodesV.at i _ ch xs hch k3
      obtain ⟨tag, v1, p, v3, lq, cq, l3, ats, rfl, m2, m3, m4, m5, m6, m7⟩ := n3
      have n6 := n5 [.string tag, v1, .int .i64 (-1), v3] q ⟨tag, v1, -1, v3, lq, cq, l3, ats, rfl, m2, by decide, m4, m5, m6, m7⟩
      have hgc := k5 g (by simp [Value.ownBlock])
      have hgl : g < wr.heap.size := hgc.2
      have own0 := fun (j : Nat) (hj : j < i * 4) => k2.cellAt j hj
      have cN : wr.cell? ⟨g, ch * 4 + 2, none⟩ = some (.int .i64 p) := by
        rw [k2.cellAt _ (by omega), n1, List.getElem?_append_right (by omega), n2]
        simp
      have fN : wr.frozen? ⟨g, ch * 4 + 2, none⟩ = false := k2.frozenAt _
      have gne : g ≠ w.heap.size + 1 + 1 + 1 := by omega
      have gne2 : g ≠ w.heap.size + 1 + 1 := by omega
      have c3 : wr.cell? ⟨w.heap.size + 1 + 1, 0, none⟩ = some (.slice none 0 0) := cell_of_row _ _ 0 _ _ _ ((hBr.block _ (by omega)).trans HX.out.2.2.1)
      have f3 : wr.frozen? ⟨w.heap.size + 1 + 1, 0, none⟩ = false := by simp [World.frozen?, (hBr.block (w.heap.size + 1 + 1) (by omega)).trans HX.out.2.2.1]
      have HK := Lib.hid (And.intro k1 (And.intro k2 (And.intro hP (And.intro hBr (And.intro n1 (And.intro n2 (And.intro n4 n6)))))))
      clear k1 k2 k3 hP k5 hBr n1 n2 n4 n5 n6 m2 m3 m4 m5 m6 m7 hG own0
      go_wp2_with fail
      obtain ⟨k1, k2, hP, hBr, n1, n2, n4, n6⟩ := HK.out
      obtain ⟨W5, hW5⟩ : ∃ W, W = wr.setCell ⟨g, ch * 4 + 2, none⟩ (.int .i64 (-1)) := ⟨_, rfl⟩
      have z5 : W5.heap[w.heap.size + 1 + 1]? = some (.cells #[.slice none 0 0] 24 (0, 0)) := by
        rw [hW5]; exact (Below.heap_setCell _ _ _ _ (by show w.heap.size + 1 + 1 ≠ g; omega)).trans ((hBr.block (w.heap.size + 1 + 1) (by omega)).trans HX.out.2.2.1)
      have o5 := (k2.stored (ch * 4 + 2) (.int .i64 (-1))).1
      rw [← hW5] at o5 ⊢
      obtain ⟨W6, hW6⟩ : ∃ W, W = W5.setCell ⟨w.heap.size + 1 + 1, 0, none⟩ (.slice (some ⟨g, 0, none⟩) i cG) := ⟨_, rfl⟩
      have f0 : W6.cell? ⟨w.heap.size + 1 + 1, 0, none⟩ = some (.slice (some ⟨g, 0, none⟩) i cG) := by rw [hW6]; exact cell_of_row _ _ 0 _ _ _ (setCell_one z5)
      rw [← hW6]
      have keep : ∀ k, k ≠ g → k ≠ w.heap.size + 1 + 1 → W6.heap[k]? = wr.heap[k]? := fun k e1 e2 => by
        rw [hW6]; refine (Below.heap_setCell _ _ _ _ e2).trans ?_
        rw [hW5]; exact Below.heap_setCell _ _ _ _ e1
      have size6 : W6.heap.size = wr.heap.size := by rw [hW6, setCell_size, hW5, setCell_size]
      have o6 : W6.ownsRow (W1.heap.size + 1) 107 4 (.slice (some ⟨g, 0, none⟩) i cG) i (xs.set (ch * 4 + 2) (.int .i64 (-1))) := by rw [hW6]; exact ownsRow_setCell_below o5 (by show w.heap.size + 1 + 1 < W1.heap.size + 1; omega) _
      have bEnd : Below w.heap.size w W6 := by
        rw [hW6, hW5]
        exact ((HB1.out.trans (hBr.mono (by omega))).setCell (by show w.heap.size ≤ g; omega) _).setCell (by show w.heap.size ≤ w.heap.size + 1 + 1; omega) _
      have hset : xs.set (ch * 4 + 2) (.int .i64 (-1)) = pre ++ ([.string tag, v1, .int .i64 (-1), v3] ++ post) := by
        rw [n1, List.set_append_right _ _ (by omega), n2]
        simp
      rw [hset] at o6
      have ne : ∀ k, (Value.slice (some ⟨g, 0, none⟩) i cG).ownBlock ≠ some k → k ≠ g := fun k h e => h (by rw [e]; rfl)
      have gd : ∀ k, (Nw (W1.heap.size + 1) wr k ∧ (Value.slice (some ⟨g, 0, none⟩) i cG).ownBlock ≠ some k) → W6.heap[k]? = wr.heap[k]? := fun k hk => keep k (ne k hk.2) (by have := hk.1.1; omega)
      have gn : ∀ k, (Nw (W1.heap.size + 1) wr k ∧ (Value.slice (some ⟨g, 0, none⟩) i cG).ownBlock ≠ some k) → Nw w.heap.size W6 k ∧ k ≠ g := fun k hk => by
        obtain ⟨h1, h2, cc, e, h3⟩ := hk.1
        exact ⟨⟨by omega, by rw [size6]; exact h2, cc, e, (gd k hk).trans h3⟩, ne k hk.2⟩
      refine bodyPost_ret (v := .agg #[.slice (some ⟨g, 0, none⟩) i cG]) (by simp [results, Tryz.results77, go_sem, f0]) rfl ⟨⟨g, cG, rfl, _, F4, J4, ⟨o6.1, ?_⟩, NodesV.more _ _ _ _ ?_ (NodesV.mono (fun k hk => ⟨hk, gd k (hP.hF k hk)⟩) (fun k hk => ⟨hk, fun _ _ hi => hi.keep (gd k (hP.hJ k hk))⟩) _ _ _ n6), fun k hk => gn k (hP.hF k hk), fun k hk => have h := gn k (hP.hJ k hk); ⟨⟨h.1.1, h.1.2.1⟩, h.2⟩, hP.hFJ⟩, bEnd⟩
      · rcases o6.2 with h | ⟨g', cap', cur, h, hb, hh⟩
        · exact .inl h
        · exact .inr ⟨g', cap', cur, h, by omega, hh⟩
      · have e1 := take_nodes_le i rows
        omega
end Go.Proofs.YtomnkglnbmnmpaaGreatDoor
