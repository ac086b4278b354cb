/- The comparison of the law answers true, for each call that fulfils its contract. -/
import Derived.Test.YtgkamgijnhbcbaaGreatDoorEyes
import Derived.WalkKit
import Derived.WalkSpells
import Derived.WalkLawsBesides
import Derived.Deep.RegionLaw
import Derived.Deep.AppendLies
import Derived.Deep.QuietTactic
import Derived.BigQuiet
import Derived.StillTailTactics
namespace Go.Proofs.YtgkamgijnhbcbaaGreatDoor
open Go.RowKit Go.Vt Go.Proofs
theorem bump_SharedNth (s : Nat) : s + 1 + 0 = s + 1 := rfl
set_option maxRecDepth 100000 in
set_option maxHeartbeats 1000000 in
theorem apart_ok_SharedNth (tab : Nat → List CT) (hsee : SeeOK Tryz.prog 3 9 tab limO 22 [.sl 132, .int .i64, .bool, .sl 4, .int .i64, .int .i64]) (hown : OwnA Tryz.prog tab limL 21 [.sl 132, .int .i64, .bool, .sl 4, .int .i64, .int .i64]) (hgreat : GreatOK Tryz.prog 43) (hsame : SameOK Tryz.prog 45) (hlook : LookOK Tryz.prog 3 9 tab limO 44) (halike : AlikeOK Tryz.prog 3 9 46) : ApartOK Tryz.prog 3 9 tab 20 21 22 [.sl 132, .int .i64, .bool, .sl 4, .int .i64, .int .i64] := by
  intro F w vs cs vc fs hn ht0 hr0 hnf0 hF hvc hfl hfs
  have hcr := hr0
  have hct := ht0
  obtain ⟨c0, cs0, rfl, a0, ht1⟩ := ht0.cons
  obtain ⟨v0, vs0, rfl, b0, hr1⟩ := hr0.cons
  obtain ⟨c1, cs1, rfl, a1, ht2⟩ := ht1.cons
  obtain ⟨v1, vs1, rfl, b1, hr2⟩ := hr1.cons
  obtain ⟨c2, cs2, rfl, a2, ht3⟩ := ht2.cons
  obtain ⟨v2, vs2, rfl, b2, hr3⟩ := hr2.cons
  obtain ⟨c3, cs3, rfl, a3, ht4⟩ := ht3.cons
  obtain ⟨v3, vs3, rfl, b3, hr4⟩ := hr3.cons
  obtain ⟨c4, cs4, rfl, a4, ht5⟩ := ht4.cons
  obtain ⟨v4, vs4, rfl, b4, hr5⟩ := hr4.cons
  obtain ⟨c5, cs5, rfl, a5, ht6⟩ := ht5.cons
  obtain ⟨v5, vs5, rfl, b5, hr6⟩ := hr5.cons
  obtain rfl := ht6.nil
  obtain rfl := hr6.nil
  obtain ⟨va0, vl0, vk0, rfl⟩ := Ht.slf a0 b0
  obtain ⟨va1, rfl⟩ := Ht.intf a1 b1
  obtain ⟨va2, rfl⟩ := Ht.boolf a2 b2
  obtain ⟨va3, vl3, vk3, rfl⟩ := Ht.slf a3 b3
  obtain ⟨va4, rfl⟩ := Ht.intf a4 b4
  obtain ⟨va5, rfl⟩ := Ht.intf a5 b5
  clear ht0 hr0 a0 b0 ht1 hr1 a1 b1 ht2 hr2 a2 b2 ht3 hr3 a3 b3 ht4 hr4 a4 b4 ht5 hr5 a5 b5 ht6 hr6
  obtain ⟨ac, cc, gc, rfl, hc1, hc2⟩ := hvc
  rw [List.length_map]
  have hent5 : ∀ args w, (callFunc 21 args).run Tryz.prog w = .ok (.enter 21 args) w := fun _ _ => rfl
  have hent6 : ∀ args w, (callFunc 22 args).run Tryz.prog w = .ok (.enter 22 args) w := fun _ _ => rfl
  obtain ⟨W0, hW0⟩ : ∃ W0, W0 = (w.alloc (Obj.cells #[(.slice va0 vl0 vk0), (.int .i64 va1), (.bool va2), (.slice va3 vl3 vk3), (.int .i64 va4), (.int .i64 va5)] 56)).alloc (Obj.cells #[.slice none 0 0, .slice none 0 0, .bool false, .int .i64 0, .bool false] 83) := ⟨_, rfl⟩
  have b0 : Below w.heap.size w W0 := by rw [hW0]; exact ((Below.refl _ _).alloc (Nat.le_refl _) _).alloc (by simp) _
  have s0 : W0.heap.size = w.heap.size + 2 := by rw [hW0, alloc_size, alloc_size]
  have x0 : W0.heap[w.heap.size]? = some (.cells #[(.slice va0 vl0 vk0), (.int .i64 va1), (.bool va2), (.slice va3 vl3 vk3), (.int .i64 va4), (.int .i64 va5)] 56 (0, 0)) := by rw [hW0]; exact (Below.heap_alloc _ _ _ (by rw [alloc_size]; omega)).trans (heap_alloc_new w _)
  have y0 : W0.heap[w.heap.size + 1]? = some (freshEye false false 0 83) := by
    rw [hW0]
    have := heap_alloc_new (w.alloc (Obj.cells #[(.slice va0 vl0 vk0), (.int .i64 va1), (.bool va2), (.slice va3 vl3 vk3), (.int .i64 va4), (.int .i64 va5)] 56)) (Obj.cells #[.slice none 0 0, .slice none 0 0, .bool false, .int .i64 0, .bool false] 83); rwa [alloc_size] at this
  have r0 : RdRow (fun k => F k ∨ k = w.heap.size) W0 w.heap.size 0 [c0, c1, c2, c3, c4, c5] := by
    refine RdVals.row _ _ 0 (RdVals.mono (fun k hk => ⟨.inl hk, b0.block k (hF k hk)⟩) _ _ hcr) (fun j u hu => ?_)
    rw [Nat.zero_add, cell_of_row _ _ _ _ _ _ x0]; simpa using hu
  have n0 : RfRow W0 w.heap.size 0 [c0, c1, c2, c3, c4, c5] := RfVals.row _ _ 0 (RfVals.mono (F := F) (fun k hk => b0.block k (hF k hk)) _ _ hcr hnf0) (fun j u hu => by rw [Nat.zero_add, cell_of_row _ _ _ _ _ _ x0]; simpa using hu) (fun j => by simp [World.frozen?, x0])
  have hc := see_plain (W := W0) (be := w.heap.size + 1) (T := 83) (rm := false) hsee (by simp only [limO]; omega) (by simp only [limO]; omega) hct r0 (.inr rfl) (fun k hk => by rcases hk with hk | rfl; (· have := hF k hk; omega); omega) (by simp) y0 n0
  have HC := Lib.hid hc
  have HX := Lib.hid x0
  have HR := Lib.hid hcr
  have HT := Lib.hid hct
  have HG := Lib.hid hgreat
  have HS := Lib.hid hsame
  have HL := Lib.hid hlook
  have HA := Lib.hid halike
  have HO := Lib.hid hown
  have HE := Lib.hid hsee
  have HF := Lib.hid hF
  have HW := Lib.hid hW0
  have HB0 := Lib.hid b0
  have H1 := Lib.hid hc1
  have H2 := Lib.hid hc2
  have HFS := Lib.hid hfs
  have HN := Lib.hid hn
  clear hc x0 n0 hnf0 hcr hct hgreat hsame hlook halike hown hsee hF hW0 b0 y0 r0 hc1 hc2 hfs hn
  go_enter Tryz.func20, Tryz.ntmps20
  go_wp2_with fail
  rw [← HW.out]
  refine HC.out.mono ?_
  rintro e w1 ⟨rfl, hb1, hk1, ns, ss, B, a, l1, l2, hE⟩
  obtain ⟨nv, sv, q0, q1, q2, q3, q4, hR⟩ := hE.read l1 l2
  simp only [Nat.zero_add] at q1 q2 q3 q4
  have x1 := (hk1 w.heap.size (by omega) (by omega)).trans HX.out
  have hb1' : Below w.heap.size w w1 := HB0.out.trans (hb1.mono (by omega))
  have hg := HG.out w1 _ ns ss hR
  have HG1 := Lib.hid hg
  have HX1 := Lib.hid x1
  have HB1 := Lib.hid hb1'
  clear hg x1 hb1' hk1 hb1 hE hR
  go_wp2_with fail
  refine HG1.out.mono ?_
  rintro e w2 ⟨⟨bb, rfl⟩, hb2⟩
  have hs2 : w.heap.size < w2.heap.size := by
    have := World.block_lt_of_cell? w1 _ q0; have := hb2.size; show w.heap.size < _; simp only at *; omega
  have x2 : w2.heap[w.heap.size]? = some (.cells #[(.slice va0 vl0 vk0), (.int .i64 va1), (.bool va2), (.slice va3 vl3 vk3), (.int .i64 va4), (.int .i64 va5)] 56 (0, 0)) := (hb2.block _ (by have := World.block_lt_of_cell? w1 _ q0; simp only at *; omega)).trans HX1.out
  have hb2' : Below w.heap.size w w2 := HB1.out.trans (hb2.mono HB1.out.size)
  have HB2 := Lib.hid hb2'
  have HX2 := Lib.hid x2
  clear q0 q1 q2 q3 q4 hb2 hb2' x2
  cases bb with
  | true =>
    go_wp2_with fail
    go_ret
    exact ⟨rfl, HB2.out⟩
  | false =>
  go_wp2_with fail
  go_loopw [10] (fun x10 wr => ∃ i : Nat, i ≤ fs.length ∧ x10 = .int .i64 i ∧ Below w2.heap.size w2 wr) (fun x10 _ => fs.length - (intOf x10).toNat)
  case atStart => exact ⟨0, Nat.zero_le _, rfl, Below.refl _ _⟩
  case round =>
    obtain ⟨i, hi, rfl, hB⟩ := hrel
    obtain ⟨wo, hwo⟩ : ∃ wo, wo = wr := ⟨wr, rfl⟩
    subst hwo
    have hBw : Below w.heap.size w wo := HB2.out.trans (hB.mono HB2.out.size)
    have xr : wo.heap[w.heap.size]? = some (.cells #[(.slice va0 vl0 vk0), (.int .i64 va1), (.bool va2), (.slice va3 vl3 vk3), (.int .i64 va4), (.int .i64 va5)] 56 (0, 0)) := (hB.block _ hs2).trans HX2.out
    have p0 : wo.cell? ⟨w.heap.size, 0, none⟩ = some (.slice va0 vl0 vk0) := cell_of_row _ _ 0 _ _ _ xr
    have p1 : wo.cell? ⟨w.heap.size, 1, none⟩ = some (.int .i64 va1) := cell_of_row _ _ 1 _ _ _ xr
    have p2 : wo.cell? ⟨w.heap.size, 2, none⟩ = some (.bool va2) := cell_of_row _ _ 2 _ _ _ xr
    have p3 : wo.cell? ⟨w.heap.size, 3, none⟩ = some (.slice va3 vl3 vk3) := cell_of_row _ _ 3 _ _ _ xr
    have p4 : wo.cell? ⟨w.heap.size, 4, none⟩ = some (.int .i64 va4) := cell_of_row _ _ 4 _ _ _ xr
    have p5 : wo.cell? ⟨w.heap.size, 5, none⟩ = some (.int .i64 va5) := cell_of_row _ _ 5 _ _ _ xr
    by_cases hlt : i < fs.length
    · have hne : (fs.map fun f => Value.func (.func f) #[] #[]) ≠ [] := by intro e; simp at e; subst e; simp at hlt
      obtain ⟨rfl, hg⟩ := H1.out hne
      have hfi : fs[i]? = some fs[i] := List.getElem?_eq_getElem hlt
      have hfm : fs[i] ∈ fs := List.getElem_mem hlt
      generalize fs[i] = f at hfi hfm
      obtain ⟨hcall, hentf⟩ := HFS.out f hfm
      have hqf : w.cell? ⟨gc, i, none⟩ = some (.func (.func f) #[] #[]) := H2.out i _ (by rw [List.getElem?_map, hfi]; rfl)
      have hc := HO.out F wo [(.slice va0 vl0 vk0), (.int .i64 va1), (.bool va2), (.slice va3 vl3 vk3), (.int .i64 va4), (.int .i64 va5)] [c0, c1, c2, c3, c4, c5] (by have := HN.out; simp only [limL]; omega) (by have := HN.out; simp only [limL]; omega) HT.out (RdVals.mono (fun k hk => ⟨hk, hBw.block k (HF.out k hk)⟩) _ _ HR.out) (fun k hk => Nat.lt_of_lt_of_le (HF.out k hk) hBw.size)
      have HC2 := Lib.hid hc
      have HCALL := Lib.hid hcall
      have HBW := Lib.hid hBw
      have HB := Lib.hid hB
      have HQF := Lib.hid hqf
      clear hc hcall hBw hB hqf xr
      go_wp2_with fail
      refine HC2.out.mono ?_
      rintro e w3 ⟨vs', cs', rfl, ho, hb3⟩
      obtain ⟨o1, o2, o3, o4⟩ := OwnedRow.out _ _ _ _ ho
      have hlu := ho.len
      change vs'.length = 6 at hlu
      obtain ⟨u0, ut0, rfl, hlu_0⟩ := len_cons hlu
      obtain ⟨u1, ut1, rfl, hlu_1⟩ := len_cons hlu_0
      obtain ⟨u2, ut2, rfl, hlu_2⟩ := len_cons hlu_1
      obtain ⟨u3, ut3, rfl, hlu_3⟩ := len_cons hlu_2
      obtain ⟨u4, ut4, rfl, hlu_4⟩ := len_cons hlu_3
      obtain ⟨u5, ut5, rfl, hlu_5⟩ := len_cons hlu_4
      obtain rfl := len_nil hlu_5
      obtain ⟨d0, ds0, rfl, ho_0, hot0⟩ := ho.cons
      obtain ⟨d1, ds1, rfl, ho_1, hot1⟩ := hot0.cons
      obtain ⟨d2, ds2, rfl, ho_2, hot2⟩ := hot1.cons
      obtain ⟨d3, ds3, rfl, ho_3, hot3⟩ := hot2.cons
      obtain ⟨d4, ds4, rfl, ho_4, hot4⟩ := hot3.cons
      obtain ⟨d5, ds5, rfl, ho_5, hot5⟩ := hot4.cons
      obtain rfl := hot5.nil
      obtain ⟨ua0, ul0, uk0, rfl⟩ := ho_0.slf
      obtain ⟨ua1, rfl⟩ := ho_1.intf
      obtain ⟨ua2, rfl⟩ := ho_2.boolf
      obtain ⟨ua3, ul3, uk3, rfl⟩ := ho_3.slf
      obtain ⟨ua4, rfl⟩ := ho_4.intf
      obtain ⟨ua5, rfl⟩ := ho_5.intf
      obtain ⟨W4, hW4⟩ : ∃ W4, W4 = ((((w3.alloc (Obj.cells #[(.slice ua0 ul0 uk0), (.int .i64 ua1), (.bool ua2), (.slice ua3 ul3 uk3), (.int .i64 ua4), (.int .i64 ua5)] 56)).alloc (Obj.cells #[.slice none 0 0, .slice none 0 0, .bool false, .int .i64 0, .bool true] 83)).alloc (Obj.cells #[.slice none 0 0, .slice none 0 0, .bool false, .int .i64 0, .bool true] 83)).alloc (Obj.cells #[.slice none 0 0, .slice none 0 0, .bool false, .int .i64 0, .bool true] 83)).alloc (Obj.cells #[.slice none 0 0, .slice none 0 0, .bool false, .int .i64 0, .bool true] 83) := ⟨_, rfl⟩
      obtain ⟨b4, s4, y4, e4⟩ := five w3 (Obj.cells #[(.slice ua0 ul0 uk0), (.int .i64 ua1), (.bool ua2), (.slice ua3 ul3 uk3), (.int .i64 ua4), (.int .i64 ua5)] 56) (Obj.cells #[.slice none 0 0, .slice none 0 0, .bool false, .int .i64 0, .bool true] 83)
      rw [← hW4] at b4 s4 y4 e4
      obtain ⟨y, hyf, hyb, hyc, hst⟩ : ∃ y : Out, y.f = 22 ∧ y.b = w3.heap.size ∧ y.cts = [.sl 132, .int .i64, .bool, .sl 4, .int .i64, .int .i64] ∧ Stage Tryz.prog 3 9 83 tab limO wo.heap.size (w3.heap.size + 5) (w3.heap.size + 5) y (fun _ => none) [] (.slice none 0 0) [] W4 :=
        ⟨Yet 22 w3.heap.size [.sl 132, .int .i64, .bool, .sl 4, .int .i64, .int .i64] [d0, d1, d2, d3, d4, d5] wo.heap.size W4, rfl, rfl, rfl, Stage.start HE.out hent6 ho (by have := HN.out; simp only [limO]; omega) (by have := HN.out; simp only [limY]; omega) hb3.size b4 s4 y4 e4⟩
      have hd4 : Below wo.heap.size wo W4 := hb3.trans (b4.mono hb3.size)
      have hwr : wo.heap.size ≤ w3.heap.size := hb3.size
      have hc := hst.see 0 (by decide) rfl
      rw [hyf, hyb] at hc
      have HC3 := Lib.hid hc
      have HD4 := Lib.hid hd4
      have HW4 := Lib.hid hW4
      clear hc hd4 hW4 b4 s4 y4 e4 hst ho o1 o2 o3 o4 hb3 p0 ho_0 hot0 p1 ho_1 hot1 p2 ho_2 hot2 p3 ho_3 hot3 p4 ho_4 hot4 p5 ho_5 hot5
      go_wp2_with fail
      rw [← HW4.out]
      refine HC3.out.mono ?_
      rintro e w5 ⟨rfl, hb5, hst5⟩
      have hd5 : Below wo.heap.size wo w5 := HD4.out.trans (hb5.mono (by omega))
      have qf5 : w5.cell? ⟨gc, i, none⟩ = some (.func (.func f) #[] #[]) := ((HBW.out.trans (hd5.mono HBW.out.size)).cell (p := ⟨gc, i, none⟩) hg).trans HQF.out
      have hc := hst5.call (f := f) (by rw [hyc]; exact HCALL.out)
      rw [hyb] at hc
      have HC4 := Lib.hid hc
      have HD5 := Lib.hid hd5
      clear hc hd5 hb5 hst5
      go_wp2_with fail
      refine HC4.out.mono ?_
      rintro e w6 ⟨v, outs, M1, M2, rfl, hb6, hlen, hst6⟩
      obtain ⟨al, cl, gl, rfl, hcell6⟩ := hst6.form
      have hd6 : Below wo.heap.size wo w6 := HD5.out.trans (hb6.mono HD5.out.size)
      have hc := hst6.see 1 (by decide) (by simp)
      rw [hyf, hyb] at hc
      have HC5 := Lib.hid hc
      have HD6 := Lib.hid hd6
      clear hc hd6 hb6 hst6 hcell6 qf5
      go_wp2_with fail
      refine HC5.out.mono ?_
      rintro e w7 ⟨rfl, hb7, hst7⟩
      have hd7 : Below wo.heap.size wo w7 := HD6.out.trans (hb7.mono (by omega))
      have hc := hst7.look HL.out hlen
      have HC6 := Lib.hid hc
      have HD7 := Lib.hid hd7
      clear hc hd7 hb7 hst7
      go_wp2_with fail
      refine HC6.out.mono ?_
      rintro e w8 ⟨told, rfl, hb8, hst8⟩
      have hd8 : Below wo.heap.size wo w8 := HD7.out.trans (hb8.mono HD7.out.size)
      have hc := hst8.poke (X := Obj.cells #[.slice none 0 0, .slice none 0 0, .bool true, .int .i64 0, .bool true] 83) rfl
      rw [hyf, hyb] at hc
      have HC7 := Lib.hid hc
      have HD8 := Lib.hid hd8
      clear hc hd8 hb8 hst8
      go_wp2_with fail
      refine HC7.out.mono ?_
      rintro e w9 ⟨rfl, hb9, cs9, hst9⟩
      have hd9 : Below wo.heap.size wo w9 := HD8.out.trans hb9
      obtain ⟨y9, hyf9, hyb9, hyc9, hst9⟩ : ∃ y9 : Out, y9.f = 22 ∧ y9.b = w3.heap.size ∧ y9.cts = [.sl 132, .int .i64, .bool, .sl 4, .int .i64, .int .i64] ∧ Stage Tryz.prog 3 9 83 tab limO wo.heap.size M1 M2 y9 _ outs _ _ w9 := ⟨{ f := 22, b := w3.heap.size, cts := y.cts, cs := cs9, G := y.G }, rfl, rfl, hyc, hst9⟩
      obtain ⟨nv0, sv0, ma0, g00, g01, g02, g03, g04, hR0⟩ := hst9.eye 0 (by decide) (o := (obsNRow true y.cs, obsSRow true y.cs)) (by simp)
      obtain ⟨nv1, sv1, ma1, g10, g11, g12, g13, g14, hR1⟩ := hst9.eye 1 (by decide) (o := (obsNRow true y.cs, obsSRow true y.cs)) (by simp)
      simp only [hyb9, Nat.add_zero, Nat.add_assoc, Nat.reduceAdd] at g00 g01 g02 g03 g04 g10 g11 g12 g13 g14
      have hc := HS.out w9 _ _ _ _ hR0 hR1
      have HC8 := Lib.hid hc
      have HD9 := Lib.hid hd9
      have HST9 := Lib.hid hst9
      clear hc hd9 hb9 hst9 hR0 hR1
      go_wp2_with fail
      refine HC8.out.mono ?_
      rintro e w10 ⟨rfl, hb10⟩
      have hst10 := HST9.out.below hb10
      have hd10 : Below wo.heap.size wo w10 := HD9.out.trans (hb10.mono HD9.out.size)
      have hc := hst10.look HL.out hlen
      have HC9 := Lib.hid hc
      have HD10 := Lib.hid hd10
      clear hc hd10 hb10 hst10 HST9 g00 g01 g02 g03 g04 g10 g11 g12 g13 g14
      go_wp2_with fail
      refine HC9.out.mono ?_
      rintro e w11 ⟨now, rfl, hb11, hst11⟩
      have hd11 : Below wo.heap.size wo w11 := HD10.out.trans (hb11.mono HD10.out.size)
      obtain ⟨L1, _, hl1⟩ := hst11.htolds (now, outs.map Out.obs) (by simp)
      obtain ⟨L2, _, hl2⟩ := hst11.htolds (told, outs.map Out.obs) (by simp)
      have hc := HA.out L2 L1 w11 told now (-1) _ _ (by decide) (by decide) (by rw [List.length_map]; exact hlen) hl2 hl1 rfl (fun _ _ => rfl)
      have HC10 := Lib.hid hc
      have HD11 := Lib.hid hd11
      have HST11 := Lib.hid hst11.forget
      clear hc hd11 hb11 hst11 hl1 hl2
      go_wp2_with fail
      refine HC10.out.mono ?_
      rintro e w12 ⟨rfl, hb12⟩
      have hst12 := HST11.out.below hb12
      have hd12 : Below wo.heap.size wo w12 := HD11.out.trans (hb12.mono HD11.out.size)
      have hc := hst12.see 2 (by decide) (by simp)
      rw [hyf9, hyb9] at hc
      have HC11 := Lib.hid hc
      have HD12 := Lib.hid hd12
      clear hc hd12 hb12 hst12 HST11
      go_wp2_with fail
      refine HC11.out.mono ?_
      rintro e w13 ⟨rfl, hb13, hst13⟩
      have hd13 : Below wo.heap.size wo w13 := HD12.out.trans (hb13.mono (by omega))
      have HD13 := Lib.hid hd13
      have HST13 := Lib.hid hst13
      clear hd13 hst13 hb13
      go_wp2_with fail
      go_loopw [18] (fun x18 wk => ∃ (k : Nat) (outk : List Out), k ≤ outs.length ∧ x18 = .int .i64 k ∧ outk.length = outs.length ∧ Below wo.heap.size wo wk ∧ Stage Tryz.prog 3 9 83 tab limO wo.heap.size M1 M2 y9 (fun i => if i = 2 then some (obsNRow true y9.cs, obsSRow true y9.cs) else if i = 1 then some (obsNRow true y.cs, obsSRow true y.cs) else if i = 0 then some (obsNRow true y.cs, obsSRow true y.cs) else none) outk (.slice al outs.length cl) [] wk) (fun x18 _ => outs.length - (intOf x18).toNat)
      case atStart => exact ⟨0, outs, Nat.zero_le _, rfl, rfl, HD13.out, HST13.out⟩
      case round =>
        obtain ⟨k, outk, hk, rfl, hlk, hdk, hstk⟩ := hrel
        by_cases hltk : k < outs.length
        · have hko : outk[k]? = some outk[k] := List.getElem?_eq_getElem (by omega)
          generalize outk[k] = o at hko
          have hc := hstk.look HL.out (by omega)
          have HC12 := Lib.hid hc
          have HDK := Lib.hid hdk
          clear hc hdk hstk
          go_wp2_with fail
          refine HC12.out.mono ?_
          rintro e wk1 ⟨t1, rfl, hb1, hs1⟩
          obtain ⟨a1, c1, g1, hv1, hcell1⟩ := hs1.form
          obtain ⟨hq1, hq2⟩ := hcell1 k o hko
          obtain rfl : al = some ⟨g1, 0, none⟩ := by injection hv1 with hv1; exact hv1.trans hq1
          have hent := (hs1.houts o (List.mem_of_getElem? hko)).1.enter
          have hm1 : wo.heap.size ≤ M1 := by have := hs1.m0; omega
          have hdk1 : Below wo.heap.size wo wk1 := HDK.out.trans (hb1.mono HDK.out.size)
          have hc := hs1.pokeOut hko (X := Obj.cells #[.slice none 0 0, .slice none 0 0, .bool true, .int .i64 (1000000 * ((k : Int) + 1)), .bool false] 83) (a := 1000000 * ((k : Int) + 1)) rfl (by omega) (by omega)
          have HC13 := Lib.hid hc
          have HDK1 := Lib.hid hdk1
          clear hc hdk1 hb1 hs1 hcell1 hv1 hq1
          go_wp2_with fail
          refine HC13.out.mono ?_
          rintro e wk2 ⟨rfl, hb2, csk, hs2⟩
          have hdk2 : Below wo.heap.size wo wk2 := HDK1.out.trans (hb2.mono hm1)
          have hc := hs2.look HL.out (by rw [List.length_set]; omega)
          have HC14 := Lib.hid hc
          have HDK2 := Lib.hid hdk2
          clear hc hdk2 hb2 hs2 hq2
          go_wp2_with fail
          refine HC14.out.mono ?_
          rintro e wk3 ⟨t2, rfl, hb3, hs3⟩
          have hdk3 : Below wo.heap.size wo wk3 := HDK2.out.trans (hb3.mono HDK2.out.size)
          obtain ⟨L1, _, hl1⟩ := hs3.htolds (t2, _) (List.mem_cons_self ..)
          obtain ⟨L2, _, hl2⟩ := hs3.htolds (t1, outk.map Out.obs) (by simp)
          have hc := HA.out L2 L1 wk3 t1 t2 k _ _ (by omega) (by omega) (by rw [List.length_map]; omega) hl2 hl1 (by simp) (fun q hq => by
            rw [List.getElem?_map, List.getElem?_map, List.getElem?_set_ne (by omega)])
          have HC15 := Lib.hid hc
          have HDK3 := Lib.hid hdk3
          have HSK3 := Lib.hid hs3.forget
          clear hc hdk3 hb3 hs3 hl1 hl2
          go_wp2_with fail
          refine HC15.out.mono ?_
          rintro e wk4 ⟨rfl, hb4⟩
          have hdk4 : Below wo.heap.size wo wk4 := HDK3.out.trans (hb4.mono HDK3.out.size)
          have hs4 := HSK3.out.below hb4
          have HDK4 := Lib.hid hdk4
          have HSK4 := Lib.hid hs4
          clear hdk4 hs4 hb4
          go_wp2_with fail
          go_roundw
          case rel => exact ⟨k + 1, _, by omega, by go_num, by rw [List.length_set]; exact hlk, HDK4.out, HSK4.out⟩
          case measure => simp [intOf]; omega
        · obtain rfl : k = outs.length := by omega
          have hc := hstk.see 3 (by decide) (by simp)
          rw [hyf9, hyb9] at hc
          have HC16 := Lib.hid hc
          have HDK := Lib.hid hdk
          clear hc hdk hstk
          go_wp2_with fail
          refine HC16.out.mono ?_
          rintro e w14 ⟨rfl, hb14, hst14⟩
          have hd14 : Below wo.heap.size wo w14 := HDK.out.trans (hb14.mono (by omega))
          obtain ⟨nv2, sv2, ma2, g20, g21, g22, g23, g24, hR2⟩ := hst14.eye 2 (by decide) (o := (obsNRow true y9.cs, obsSRow true y9.cs)) (by simp)
          obtain ⟨nv3, sv3, ma3, g30, g31, g32, g33, g34, hR3⟩ := hst14.eye 3 (by decide) (o := (obsNRow true y9.cs, obsSRow true y9.cs)) (by simp)
          simp only [hyb9, Nat.add_assoc, Nat.reduceAdd] at g20 g21 g22 g23 g24 g30 g31 g32 g33 g34
          have hc := HS.out w14 _ _ _ _ hR2 hR3
          have HC17 := Lib.hid hc
          have HD14 := Lib.hid hd14
          clear hc hd14 hb14 hst14 hR2 hR3
          go_wp2_with fail
          refine HC17.out.mono ?_
          rintro e w15 ⟨rfl, hb15⟩
          have hd15 : Below w2.heap.size w2 w15 := HB.out.trans ((HD14.out.trans (hb15.mono HD14.out.size)).mono HB.out.size)
          have HD15 := Lib.hid hd15
          clear hd15 hb15
          go_wp2_with fail
          go_roundw
          case rel => exact ⟨i + 1, by omega, by go_num, HD15.out⟩
          case measure => simp [intOf]; omega
    · obtain rfl : i = fs.length := by omega
      have HBW := Lib.hid hBw
      clear hBw hB xr
      go_wp2_with fail
      go_ret
      exact ⟨rfl, HBW.out⟩
theorem apart_is_SharedNth (hsee : ∀ n, SeeOK Tryz.prog 3 9 tab n 22 [.sl 132, .int .i64, .bool, .sl 4, .int .i64, .int .i64]) (hown : ∀ n, OwnA Tryz.prog tab n 21 [.sl 132, .int .i64, .bool, .sl 4, .int .i64, .int .i64]) : ApartOK Tryz.prog 3 9 tab 20 21 22 [.sl 132, .int .i64, .bool, .sl 4, .int .i64, .int .i64] :=
  apart_ok_SharedNth tab (hsee limO) (hown limL) great_ok same_ok (look_ok tab limO) (alike_ok same_ok)
end Go.Proofs.YtgkamgijnhbcbaaGreatDoor
