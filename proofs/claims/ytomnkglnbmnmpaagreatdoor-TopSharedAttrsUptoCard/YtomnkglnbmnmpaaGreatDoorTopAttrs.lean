/- The five calls of package attrs' law fulfil its contract. The law's function returns true for each argument of up to 2^30 values of data. -/
import Derived.Test.YtomnkglnbmnmpaaGreatDoorAttrs
import Derived.Test.YtomnkglnbmnmpaaGreatDoorInsert
import Derived.Test.YtomnkglnbmnmpaaGreatDoorGave
import Derived.Test.YtomnkglnbmnmpaaGreatDoorNumbers
import Derived.WalkKit
import Derived.WalkSpells
import Derived.WalkLawsBesides
import Derived.Deep.RegionWith
import Derived.RegionTactic
import Derived.StillTailTactics
import Derived.Test.YtomnkglnbmnmpaaGreatDoorGen
import Derived.Test.YtomnkglnbmnmpaaGreatDoorRun
import Derived.Test.YtomnkglnbmnmpaaGreatDoorApartSharedAttrs
import Derived.Test.YtomnkglnbmnmpaaGreatDoorOwnAny
namespace Go.Proofs.YtomnkglnbmnmpaaGreatDoor
open Go.RowKit Go.Vt Go.Proofs
/-- y's cells. -/
theorem y_at_Attrs {F : Nat → Prop} {w : World} {b : Nat} {cs : List C} (ht : HtRow tab [.sl 107, .int .i64, .str, .str, .str] cs) (h : RdRow F w b 0 cs) :
    ∃ (a : _) (len : _) (cap : _) (rows : _) (i1 : Int) (s2 : _) (s3 : _) (s4 : _), cs = [.sl 4 len cap rows, .int .i64 i1, .str s2, .str s3, .str s4] ∧ Rd F w (.sl 4 len cap rows) (.slice a len cap) ∧ HtRows tab [.str, .sl 116, .int .i64, .sl 3] rows ∧ s2.size ≤ strMax ∧ s3.size ≤ strMax ∧ s4.size ≤ strMax ∧ w.cell? ⟨b, 0, none⟩ = some (.slice a len cap) ∧ w.cell? ⟨b, 1, none⟩ = some (.int .i64 i1) ∧ w.cell? ⟨b, 2, none⟩ = some (.string s2) ∧ w.cell? ⟨b, 3, none⟩ = some (.string s3) ∧ w.cell? ⟨b, 4, none⟩ = some (.string s4) := by
  obtain ⟨c0, cs0, rfl, k0, h1⟩ := ht.cons
  obtain ⟨c1, cs1, rfl, k1, h2⟩ := h1.cons
  obtain ⟨c2, cs2, rfl, k2, h3⟩ := h2.cons
  obtain ⟨c3, cs3, rfl, k3, h4⟩ := h3.cons
  obtain ⟨c4, cs4, rfl, k4, h5⟩ := h4.cons
  obtain rfl := h5.nil
  obtain ⟨len, cap, rows, rfl, g1⟩ := ht_slE k0
  obtain ⟨i1, rfl⟩ := ht_int k1
  obtain ⟨s2, rfl⟩ := ht_str k2
  obtain ⟨s3, rfl⟩ := ht_str k3
  obtain ⟨s4, rfl⟩ := ht_str k4
  simp only [RdRow, and_true] at h
  obtain ⟨⟨v0, q0, r0⟩, ⟨v1, q1, r1⟩, ⟨v2, q2, r2⟩, ⟨v3, q3, r3⟩, ⟨v4, q4, r4⟩⟩ := h
  have r' := r0
  simp only [Rd] at r0 r1 r2 r3 r4
  obtain ⟨a, rfl, _⟩ := r0
  subst r1 r2 r3 r4
  simp only [Ht] at k2 k3 k4
  exact ⟨a, len, cap, rows, i1, s2, s3, s4, rfl, r', g1, k2.2, k3.2, k4.2, q0, q1, q2, q3, q4⟩
set_option maxRecDepth 100000 in
theorem see_f28 (n : Nat) : SeeOK Tryz.prog 3 9 tab n 28 [.sl 107] := by
  intro mk rm cs F w be oe B b o ns ss at_ hn h
  have hc := see_seeTree n mk rm cs F w be oe B b o ns ss at_ hn h
  have HC := Lib.hid hc
  clear hc h hn
  go_enter Tryz.func28, Tryz.ntmps28
  go_wp2_with fail
  refine HC.out.mono ?_
  rintro e w1 ⟨rfl, hp⟩
  go_wp2_with fail
  go_end0
  exact ⟨rfl, hp⟩
set_option maxRecDepth 100000 in
theorem see_f31 (n : Nat) : SeeOK Tryz.prog 3 9 tab n 31 [.sl 107] := by
  intro mk rm cs F w be oe B b o ns ss at_ hn h
  have hc := see_seeTree n mk rm cs F w be oe B b o ns ss at_ hn h
  have HC := Lib.hid hc
  clear hc h hn
  go_enter Tryz.func31, Tryz.ntmps31
  go_wp2_with fail
  refine HC.out.mono ?_
  rintro e w1 ⟨rfl, hp⟩
  go_wp2_with fail
  go_end0
  exact ⟨rfl, hp⟩
set_option maxRecDepth 100000 in
theorem see_f34 (n : Nat) : SeeOK Tryz.prog 3 9 tab n 34 [.sl 9] := by
  intro mk rm cs F w be oe B b o ns ss at_ hn h
  have hc := see_strs n mk rm cs F w be oe B b o ns ss at_ hn h
  have HC := Lib.hid hc
  clear hc h hn
  go_enter Tryz.func34, Tryz.ntmps34
  go_wp2_with fail
  refine HC.out.mono ?_
  rintro e w1 ⟨rfl, hp⟩
  go_wp2_with fail
  go_end0
  exact ⟨rfl, hp⟩
/-- Texts, cell by cell, read as rows of one text. -/
theorem strs_flat {F : Nat → Prop} {w : World} : ∀ (xs : List Value), (∀ u ∈ xs, IsTxt u) → ∃ rows, RdFlat F w rows xs ∧ HtRows tab [.str] rows ∧ rows.length = xs.length ∧ nodesRows rows = 2 * xs.length ∧ ∀ r ∈ rows, r.length = 1
  | [], _ => ⟨[], by simp [RdFlat], by simp [HtRows], rfl, by simp [nodesRows], by simp⟩
  | x :: xs, h => by
    obtain ⟨rows, r1, r2, r3, r4, r5⟩ := strs_flat xs (fun u hu => h u (by simp [hu]))
    obtain ⟨s, rfl, hs⟩ := h x (by simp)
    refine ⟨[.str s] :: rows, ⟨[.string s], xs, rfl, ?_, r1⟩, ?_, by simp [r3], by simp only [nodesRows, nodesRow, nodes, List.length_cons]; omega, fun r hr => ?_⟩
    · simp [RdVals, Rd]
    · simp only [HtRows, HtRow, Ht, and_true]
      exact ⟨⟨trivial, hs⟩, r2⟩
    · simp only [List.mem_cons] at hr
      rcases hr with rfl | hr
      · rfl
      · exact r5 r hr
end Go.Proofs.YtomnkglnbmnmpaaGreatDoor
namespace Go.Proofs.YtomnkglnbmnmpaaGreatDoor
open Go.RowKit Go.Vt Go.Proofs
set_option maxRecDepth 100000 in
theorem call_attrget (n : Nat) : CallOK Tryz.prog 3 9 tab n 24 [.sl 107, .int .i64, .str, .str, .str] := by
  intro F W b cs hn ht hr hb hF
  obtain ⟨a, len, cap, rows, i1, s2, s3, s4, rfl, h1, h2, z2, z3, z4, q0, q1, q2, q3, q4⟩ := y_at_Attrs ht hr
  have hnn : nodesRows rows ≤ 500000000000 := by
    simp only [nodesRow, nodes, limY] at hn; omega
  have hc := get3_ok F W.drew a i1 s2 len cap rows (Rd.mono (w := W) (w' := W.drew) (fun k hk => ⟨hk, rfl⟩) _ _ h1) h2 hF (by omega)
  have HC := Lib.hid hc
  clear hc h1 h2 hr ht hn
  go_enter Tryz.func24, Tryz.ntmps24
  go_wp2_with fail
  go_still_tail 12, (by kernel_rfl)
  change wpList _ _ _ _ _ W.drew
  go_wp2_with fail
  refine HC.out.mono ?_
  rintro e w1 ⟨⟨_, _, rfl, _⟩, hb1⟩
  go_wp2_with fail
  go_ret
  exact ⟨_, [], rfl, gave_nil, ⟨hb1.os, hb1.tape, hb1.output, hb1.size, hb1.block⟩⟩
set_option maxRecDepth 100000 in
theorem call_attrclass (n : Nat) : CallOK Tryz.prog 3 9 tab n 36 [.sl 107, .int .i64, .str, .str, .str] := by
  intro F W b cs hn ht hr hb hF
  obtain ⟨a, len, cap, rows, i1, s2, s3, s4, rfl, h1, h2, z2, z3, z4, q0, q1, q2, q3, q4⟩ := y_at_Attrs ht hr
  have hnn : nodesRows rows ≤ 500000000000 := by
    simp only [nodesRow, nodes, limY] at hn; omega
  have hc := class_ok F W.drew a i1 s2 len cap rows (Rd.mono (w := W) (w' := W.drew) (fun k hk => ⟨hk, rfl⟩) _ _ h1) h2 hF (by omega)
  have HC := Lib.hid hc
  clear hc h1 h2 hr ht hn
  go_enter Tryz.func36, Tryz.ntmps36
  go_wp2_with fail
  go_still_tail 12, (by kernel_rfl)
  change wpList _ _ _ _ _ W.drew
  go_wp2_with fail
  refine HC.out.mono ?_
  rintro e w1 ⟨⟨_, _, rfl⟩, hb1⟩
  go_wp2_with fail
  go_ret
  exact ⟨_, [], rfl, gave_nil, ⟨hb1.os, hb1.tape, hb1.output, hb1.size, hb1.block⟩⟩
set_option maxRecDepth 100000 in
set_option maxHeartbeats 4000000 in
theorem call_words : CallOK Tryz.prog 3 9 tab limO 32 [.sl 107, .int .i64, .str, .str, .str] := by
  intro F W b cs hn ht hr hb hF
  obtain ⟨a, len, cap, rows, i1, s2, s3, s4, rfl, h1, h2, z2, z3, z4, q0, q1, q2, q3, q4⟩ := y_at_Attrs ht hr
  have hbl : b < W.heap.size := hF b hb
  have hw := wordsq_ok s4 W z4
  have fin : ∀ w2 v (xs : List Value), w2.ownsRow W.heap.size 9 1 v xs.length xs → (∀ u ∈ xs, IsTxt u) → xs.length ≤ 400 → Below W.heap.size W w2 → ∃ outs, Gave Tryz.prog 3 9 tab limO W.heap.size ((w2.alloc (Obj.cells #[v] 55)).alloc (Obj.cells #[Value.func (.func 34) #[] #[.pointer (some ⟨w2.heap.size, 0, none⟩)]] 38)) (.slice (some ⟨w2.heap.size + 1, 0, none⟩) 1 1) outs ∧ Below W.heap.size W ((w2.alloc (Obj.cells #[v] 55)).alloc (Obj.cells #[Value.func (.func 34) #[] #[.pointer (some ⟨w2.heap.size, 0, none⟩)]] 38)) := by
    intro w2 v xs ho hx hl hb
    obtain ⟨rows', r1, r2, r3, r4, r5⟩ := strs_flat (F := Nw W.heap.size w2) (w := w2) xs hx
    obtain ⟨cap', hc⟩ := Rd.of_own ho r1 r3 r5
    obtain ⟨outs, hg⟩ := gave_cell (T := 55) (E := 38) (n := limO) (B := W.heap.size) (see_f34 limO) (fun _ _ => rfl) hb.size (heap_alloc_new w2 (Obj.cells #[v] 55)) (c := .sl 1 xs.length cap' rows') (t := .sl 9)
      (Rd.mono (fun k hk => nw_below ((Below.refl _ _).alloc (Nat.le_refl _) _) hk) _ _ hc)
      (by simp only [Ht]; exact ⟨9, rfl, rfl, r2⟩) (by simp only [nodes, limO]; omega) (by simp only [nodes, limO]; omega)
    rw [alloc_size] at hg
    exact ⟨outs, hg, (hb.alloc hb.size _).alloc (by rw [alloc_size]; have := hb.size; omega) _⟩
  have HW := Lib.hid hw
  have FB := Lib.hid fin
  clear hw fin h1 h2 hr ht hn
  go_enter Tryz.func32, Tryz.ntmps32
  go_wp2_with fail
  refine HW.out.mono ?_
  rintro e w2 ⟨⟨v, n, xs, rfl, ho, hx, hl⟩, hb2⟩
  obtain ⟨a1, c1, rfl⟩ := own_slice ho
  have HO := Lib.hid (And.intro ho (And.intro hx (And.intro hl hb2)))
  clear ho hx hl hb2
  go_wp2_with fail
  go_ret
  obtain ⟨outs, hg, hB⟩ := FB.out w2 _ xs HO.out.1 HO.out.2.1 HO.out.2.2.1 HO.out.2.2.2
  exact ⟨_, outs, rfl, hg, hB⟩
end Go.Proofs.YtomnkglnbmnmpaaGreatDoor
namespace Go.Proofs.YtomnkglnbmnmpaaGreatDoor
open Go.RowKit Go.Vt Go.Proofs
set_option maxRecDepth 100000 in
set_option maxHeartbeats 4000000 in
theorem call_unset : CallOK Tryz.prog 3 9 tab limO 29 [.sl 107, .int .i64, .str, .str, .str] := by
  intro F W b cs hn ht hr hb hF
  obtain ⟨a, len, cap, rows, i1, s2, s3, s4, rfl, h1, h2, z2, z3, z4, q0, q1, q2, q3, q4⟩ := y_at_Attrs ht hr
  have hnn : nodesRows rows ≤ 500000000000 := by
    simp only [nodesRow, nodes, limY] at hn; omega
  have hbl : b < W.heap.size := hF b hb
  have hc : ∀ B W', B ≤ W'.heap.size → Below W.heap.size W W' → Calls Tryz.prog 30 #[.agg #[.slice a len cap], .int .i64 i1, .string s2] W' fun e w' => ∃ a1 l1 c1 n, e = .returned (.tuple #[.agg #[.slice a1 l1 c1], .int .i64 n]) ∧ NewTree B (nodesRows rows + 100) w' (.slice a1 l1 c1) ∧ Below W'.heap.size W' w' ∧ Below W.heap.size W w' := by
    intro B W' hB hW
    refine (unset_ok F W' a i1 s2 len cap rows (Rd.mono (fun k hk => ⟨hk, hW.block k (hF k hk)⟩) _ _ h1) h2 (fun k hk => Nat.lt_of_lt_of_le (hF k hk) hW.size) (by omega)).mono ?_
    rintro e w' ⟨⟨v, n, rfl, len', cap', rows', m1, m2, m3⟩, hb⟩
    have m0 := m1
    simp only [Rd] at m0
    obtain ⟨a1, rfl, _⟩ := m0
    exact ⟨a1, len', cap', n, rfl, ⟨len', cap', rows', Rd.mono (Nw.lower hB) _ _ m1, m2, by omega⟩, hb, hW.trans (hb.mono hW.size)⟩
  have finA : ∀ w2 a1 l1 c1, NewTree (W.heap.size + 1) (nodesRows rows + 100) w2 (.slice a1 l1 c1) → w2.heap[W.heap.size]? = some (.cells #[.slice none 0 0] 24 (0, 0)) → Below W.heap.size W w2 → ∃ outs, Gave Tryz.prog 3 9 tab limO W.heap.size ((w2.setCell ⟨W.heap.size, 0, none⟩ (.slice a1 l1 c1)).alloc (Obj.cells #[Value.func (.func 31) #[] #[.pointer (some ⟨W.heap.size, 0, none⟩)]] 38)) (.slice (some ⟨w2.heap.size, 0, none⟩) 1 1) outs ∧ Below W.heap.size W ((w2.setCell ⟨W.heap.size, 0, none⟩ (.slice a1 l1 c1)).alloc (Obj.cells #[Value.func (.func 31) #[] #[.pointer (some ⟨W.heap.size, 0, none⟩)]] 38)) := by
    rintro w2 a1 l1 c1 ⟨len', cap', rows', m1, m2, m3⟩ hT hb
    have hsz : (w2.setCell ⟨W.heap.size, 0, none⟩ (.slice a1 l1 c1)).heap.size = w2.heap.size := setCell_size _ _ _
    have hlt := (Array.getElem?_eq_some_iff.1 hT).1
    obtain ⟨outs, hg⟩ := gave_cell (T := 24) (E := 38) (n := limO) (B := W.heap.size) (see_f31 limO) (fun _ _ => rfl) (Nat.le_refl _) (setCell_one (u := .slice a1 l1 c1) hT) (c := .sl 4 len' cap' rows') (t := .sl 107)
      (Rd.mono (fun k hk => by
        obtain ⟨g1, g2, cc, e, g3⟩ := hk
        have hk : (w2.setCell ⟨W.heap.size, 0, none⟩ (.slice a1 l1 c1)).heap[k]? = w2.heap[k]? := Below.heap_setCell _ _ _ _ (by show k ≠ W.heap.size; omega)
        exact ⟨⟨by omega, by rw [hsz]; exact g2, cc, e, hk.trans g3⟩, hk⟩) _ _ m1)
      (by simp only [Ht]; exact ⟨107, rfl, rfl, m2⟩) (by simp only [nodes, limO]; omega) (by simp only [nodes, limO]; omega)
    rw [hsz] at hg
    exact ⟨outs, hg, (hb.setCell (Nat.le_refl _) _).alloc (by rw [hsz]; exact hb.size) _⟩
  have finB : ∀ w2 a1 l1 c1, NewTree W.heap.size (nodesRows rows + 100) w2 (.slice a1 l1 c1) → Below W.heap.size W w2 → ∃ outs, Gave Tryz.prog 3 9 tab limO W.heap.size ((w2.alloc (Obj.cells #[.slice a1 l1 c1] 24)).alloc (Obj.cells #[Value.func (.func 31) #[] #[.pointer (some ⟨w2.heap.size, 0, none⟩)]] 38)) (.slice (some ⟨w2.heap.size + 1, 0, none⟩) 1 1) outs ∧ Below W.heap.size W ((w2.alloc (Obj.cells #[.slice a1 l1 c1] 24)).alloc (Obj.cells #[Value.func (.func 31) #[] #[.pointer (some ⟨w2.heap.size, 0, none⟩)]] 38)) := by
    rintro w2 a1 l1 c1 ⟨len', cap', rows', m1, m2, m3⟩ hb
    obtain ⟨outs, hg⟩ := gave_cell (T := 24) (E := 38) (n := limO) (B := W.heap.size) (see_f31 limO) (fun _ _ => rfl) hb.size (heap_alloc_new w2 (Obj.cells #[.slice a1 l1 c1] 24)) (c := .sl 4 len' cap' rows') (t := .sl 107)
      (Rd.mono (fun k hk => nw_below ((Below.refl _ _).alloc (Nat.le_refl _) _) hk) _ _ m1)
      (by simp only [Ht]; exact ⟨107, rfl, rfl, m2⟩) (by simp only [nodes, limO]; omega) (by simp only [nodes, limO]; omega)
    rw [alloc_size] at hg
    exact ⟨outs, hg, (hb.alloc hb.size _).alloc (by rw [alloc_size]; have := hb.size; omega) _⟩
  have HC := Lib.hid hc
  have FA := Lib.hid finA
  have FB := Lib.hid finB
  clear hc h1 h2 hr ht hn finA finB
  go_enter Tryz.func29, Tryz.ntmps29
  go_wp2_with fail
  go_region_with (first
    | (go_at_call 30; refine (HC.out (W.heap.size + 1) _ ?_ ?_).mono ?_; (show W.heap.size + 1 ≤ (W.alloc (Obj.cells #[.slice none 0 0] 24)).heap.size; rw [alloc_size]; exact Nat.le_refl _); (repeat (first | exact Below.refl _ _ | refine below_drew ?_ | refine below_drewN ?_ _ | refine below_alloc _ ?_ (by simp))); rintro e w2 ⟨a1, l1, c1, n, rfl, hv, hb2, hbW⟩; have hT2 : w2.heap[W.heap.size]? = some (Obj.cells #[.slice none 0 0] 24) := (hb2.block _ (by show W.heap.size < (W.alloc (Obj.cells #[.slice none 0 0] 24)).heap.size; rw [alloc_size]; exact Nat.lt_succ_self _)).trans (heap_alloc_new W _); have vt : w2.cell? ⟨W.heap.size, 0, none⟩ = some (.slice none 0 0) := cell_of_row _ _ 0 _ _ _ hT2; have vf : w2.frozen? ⟨W.heap.size, 0, none⟩ = false := (by simp [World.frozen?, hT2]))
    | (go_at_call 30; refine (HC.out W.heap.size _ ?_ ?_).mono ?_; exact Nat.le_refl _; (repeat (first | exact Below.refl _ _ | refine below_drew ?_ | refine below_drewN ?_ _ | refine below_alloc _ ?_ (by simp))); rintro e w2 ⟨a1, l1, c1, n, rfl, hv, hb2, hbW⟩))
  all_goals go_wp2_with fail
  all_goals go_ret
  all_goals first
    | (obtain ⟨outs, hg, hB⟩ := FA.out w2 a1 l1 c1 hv hT2 hbW; exact ⟨_, outs, rfl, hg, hB⟩)
    | (obtain ⟨outs, hg, hB⟩ := FB.out w2 a1 l1 c1 hv hbW; exact ⟨_, outs, rfl, hg, hB⟩)
end Go.Proofs.YtomnkglnbmnmpaaGreatDoor
namespace Go.Proofs.YtomnkglnbmnmpaaGreatDoor
open Go.RowKit Go.Vt Go.Proofs
theorem mk27 (t : Nat → Value) : mk 27 t = (t 0 :: t 1 :: t 2 :: t 3 :: t 4 :: t 5 :: t 6 :: t 7 :: t 8 :: t 9 :: t 10 :: t 11 :: t 12 :: t 13 :: t 14 :: t 15 :: t 16 :: t 17 :: t 18 :: t 19 :: t 20 :: t 21 :: t 22 :: t 23 :: t 24 :: t 25 :: t 26 :: []).toArray := rfl

set_option maxRecDepth 100000 in
set_option maxHeartbeats 4000000 in
theorem call_set : CallOK Tryz.prog 3 9 tab limO 26 [.sl 107, .int .i64, .str, .str, .str] := by
  intro F w b cs hn ht hr hb hF
  obtain ⟨a, len, cap, rows, i1, s2, s3, s4, rfl, h1, h2, z2, z3, z4, q0, q1, q2, q3, q4⟩ := y_at_Attrs ht hr
  have hnn : nodesRows rows ≤ 500000000000 := by
    simp only [nodesRow, nodes, limY] at hn; omega
  have hbl : b < w.heap.size := hF b hb
  have hc : ∀ B W', B ≤ W'.heap.size → Below w.heap.size w W' → Calls Tryz.prog 27 #[.agg #[.slice a len cap], .int .i64 i1, .string s2, .string s3] W' fun e w' => ∃ a1 l1 c1 n, e = .returned (.tuple #[.agg #[.slice a1 l1 c1], .int .i64 n]) ∧ NewTree B (nodesRows rows + 100) w' (.slice a1 l1 c1) ∧ Below W'.heap.size W' w' ∧ Below w.heap.size w w' := by
    intro B W' hB hW
    refine (set_ok F W' a i1 s2 s3 len cap rows (Rd.mono (fun k hk => ⟨hk, hW.block k (hF k hk)⟩) _ _ h1) h2 (fun k hk => Nat.lt_of_lt_of_le (hF k hk) hW.size) (by omega) z2 z3).mono ?_
    rintro e w' ⟨⟨v, n, rfl, len', cap', rows', m1, m2, m3⟩, hb⟩
    have m0 := m1
    simp only [Rd] at m0
    obtain ⟨a1, rfl, _⟩ := m0
    exact ⟨a1, len', cap', n, rfl, ⟨len', cap', rows', Rd.mono (Nw.lower hB) _ _ m1, m2, by omega⟩, hb, hW.trans (hb.mono hW.size)⟩
  have HC := Lib.hid hc
  clear hc h1 h2 hr ht hn z2 z3 z4
  go_enter Tryz.func26, Tryz.ntmps26
  go_wp2_with fail
  refine wp_region_plan [6, 7, 8, 9, 10, 11, 12, 13, 14, 15, 16, 17, 18, 19, 20, 21, 22, 5, 23, 24, 3, 4] 27 (fun (L : Nat → Bool) (t : Nat → Value) (W : World) => Below w.heap.size w W ∧ ((L 17 = true → L 16 = true) ∧ (L 18 = true → L 16 = true) ∧ (L 19 = true → L 16 = true) ∧ (L 21 = true → L 16 = true) ∧ (L 21 = true → L 20 = true)) ∧ (L 0 = true → t 6 = .pointer (some ⟨b, 0, none⟩)) ∧ (L 1 = true → t 7 = .pointer (some ⟨b, 0, none⟩)) ∧ (L 2 = true → t 8 = .pointer (some ⟨b, 0, none⟩)) ∧ (L 3 = true → t 9 = .agg #[.slice a len cap]) ∧ (L 4 = true → t 10 = .pointer (some ⟨b, 0, none⟩)) ∧ (L 5 = true → t 11 = .pointer (some ⟨b, 0, none⟩)) ∧ (L 6 = true → t 12 = .pointer (some ⟨b, 1, none⟩)) ∧ (L 7 = true → t 13 = .int .i64 i1) ∧ (L 8 = true → t 14 = .pointer (some ⟨b, 0, none⟩)) ∧ (L 9 = true → t 15 = .pointer (some ⟨b, 0, none⟩)) ∧ (L 10 = true → t 16 = .pointer (some ⟨b, 2, none⟩)) ∧ (L 11 = true → t 17 = .string s2) ∧ (L 12 = true → t 18 = .pointer (some ⟨b, 0, none⟩)) ∧ (L 13 = true → t 19 = .pointer (some ⟨b, 0, none⟩)) ∧ (L 14 = true → t 20 = .pointer (some ⟨b, 3, none⟩)) ∧ (L 15 = true → t 21 = .string s3) ∧ (L 16 = true → ∃ a1 l1 c1 n, t 22 = .tuple #[.agg #[.slice a1 l1 c1], .int .i64 n] ∧ ∃ len1 cap1 rows1, Rd (fun k => Nw w.heap.size W k ∧ (L 20 = true → t 3 ≠ .pointer (some ⟨k, 0, none⟩))) W (.sl 4 len1 cap1 rows1) (.slice a1 l1 c1) ∧ HtRows tab [.str, .sl 116, .int .i64, .sl 3] rows1 ∧ nodesRows rows1 ≤ nodesRows rows + 100) ∧ (L 17 = true → ∃ a1 l1 c1 n, t 22 = .tuple #[.agg #[.slice a1 l1 c1], .int .i64 n] ∧ t 5 = .tuple #[.agg #[.slice a1 l1 c1], .int .i64 n]) ∧ (L 18 = true → ∃ a1 l1 c1 n, t 22 = .tuple #[.agg #[.slice a1 l1 c1], .int .i64 n] ∧ t 23 = .agg #[.slice a1 l1 c1]) ∧ (L 19 = true → ∃ a1 l1 c1 n, t 22 = .tuple #[.agg #[.slice a1 l1 c1], .int .i64 n] ∧ t 24 = .int .i64 n) ∧ (L 20 = true → ∃ p x, t 3 = .pointer (some ⟨p, 0, none⟩) ∧ w.heap.size ≤ p ∧ W.heap[p]? = some (.cells #[x] 24 (0, 0))) ∧ (L 21 = true → ∃ p a1 l1 c1 n, t 3 = .pointer (some ⟨p, 0, none⟩) ∧ t 22 = .tuple #[.agg #[.slice a1 l1 c1], .int .i64 n] ∧ W.heap[p]? = some (.cells #[.slice a1 l1 c1] 24 (0, 0))) ∧ (L 22 = true → ∃ n, t 4 = .int .i64 n)) (by kernel_rfl) (by kernel_rfl) rfl ?start ?steps ?last
  case start => exact ⟨below_drew (Below.refl _ _), ⟨fun g => by simp at g, fun g => by simp at g, fun g => by simp at g, fun g => by simp at g, fun g => by simp at g⟩, fun g => by simp at g, fun g => by simp at g, fun g => by simp at g, fun g => by simp at g, fun g => by simp at g, fun g => by simp at g, fun g => by simp at g, fun g => by simp at g, fun g => by simp at g, fun g => by simp at g, fun g => by simp at g, fun g => by simp at g, fun g => by simp at g, fun g => by simp at g, fun g => by simp at g, fun g => by simp at g, fun g => by simp at g, fun g => by simp at g, fun g => by simp at g, fun g => by simp at g, fun g => by simp at g, fun g => by simp at g, fun g => by simp at g⟩
  case steps =>
    refine .cons (j := 1) rfl ?_ (.cons (j := 2) rfl ?_ (.cons (j := 3) rfl ?_ (.cons (j := 4) rfl ?_ (.cons (j := 5) rfl ?_ (.cons (j := 6) rfl ?_ (.cons (j := 7) rfl ?_ (.cons (j := 8) rfl ?_ (.cons (j := 9) rfl ?_ (.cons (j := 10) rfl ?_ (.cons (j := 11) rfl ?_ (.cons (j := 12) rfl ?_ (.cons (j := 13) rfl ?_ (.cons (j := 14) rfl ?_ (.cons (j := 15) rfl ?_ (.cons (j := 16) rfl ?_ (.cons (j := 17) rfl ?_ (.cons (j := 18) rfl ?_ (.cons (j := 19) rfl ?_ (.cons (j := 20) rfl ?_ (.cons (j := 21) rfl ?_ (.cons (j := 22) rfl ?_ (.cons (j := 23) rfl ?_ (.nil)))))))))))))))))))))))
    · rintro L t W ⟨hU, sB, cl, h0, h1, h2, h3, h4, h5, h6, h7, h8, h9, h10, h11, h12, h13, h14, h15, h16, h17, h18, h19, h20, h21, h22⟩ hi hd R hR
      have b0 : t 0 = .pointer (some ⟨b, 0, none⟩) := hU 0 (by decide)
      have HR := Lib.hid hR
      clear hR
      rw [mk27]
      go_wp2_with fail
      refine ⟨upd t 6 (.pointer (some ⟨b, 0, none⟩)), by rw [mk27]; simp [upd, b0], HR.out _ _ ⟨hU.upd 6 _ (by decide), sB, (by simpa using cl), fun _ => rfl, fun g => h1 (by simpa using g), fun g => h2 (by simpa using g), fun g => h3 (by simpa using g), fun g => h4 (by simpa using g), fun g => h5 (by simpa using g), fun g => h6 (by simpa using g), fun g => h7 (by simpa using g), fun g => h8 (by simpa using g), fun g => h9 (by simpa using g), fun g => h10 (by simpa using g), fun g => h11 (by simpa using g), fun g => h12 (by simpa using g), fun g => h13 (by simpa using g), fun g => h14 (by simpa using g), fun g => h15 (by simpa using g), fun g => h16 (by simpa using g), fun g => h17 (by simpa using g), fun g => h18 (by simpa using g), fun g => h19 (by simpa using g), fun g => h20 (by simpa using g), fun g => h21 (by simpa using g), fun g => h22 (by simpa using g)⟩⟩
    · rintro L t W ⟨hU, sB, cl, h0, h1, h2, h3, h4, h5, h6, h7, h8, h9, h10, h11, h12, h13, h14, h15, h16, h17, h18, h19, h20, h21, h22⟩ hi hd R hR
      have f0 := h0 (hd 0 (by kernel_rfl))
      have HR := Lib.hid hR
      clear hR
      rw [mk27]
      go_wp2_with fail
      refine ⟨upd t 7 (.pointer (some ⟨b, 0, none⟩)), by rw [mk27]; simp [upd, f0], HR.out _ _ ⟨hU.upd 7 _ (by decide), sB, (by simpa using cl), fun g => h0 (by simpa using g), fun _ => rfl, fun g => h2 (by simpa using g), fun g => h3 (by simpa using g), fun g => h4 (by simpa using g), fun g => h5 (by simpa using g), fun g => h6 (by simpa using g), fun g => h7 (by simpa using g), fun g => h8 (by simpa using g), fun g => h9 (by simpa using g), fun g => h10 (by simpa using g), fun g => h11 (by simpa using g), fun g => h12 (by simpa using g), fun g => h13 (by simpa using g), fun g => h14 (by simpa using g), fun g => h15 (by simpa using g), fun g => h16 (by simpa using g), fun g => h17 (by simpa using g), fun g => h18 (by simpa using g), fun g => h19 (by simpa using g), fun g => h20 (by simpa using g), fun g => h21 (by simpa using g), fun g => h22 (by simpa using g)⟩⟩
    · rintro L t W ⟨hU, sB, cl, h0, h1, h2, h3, h4, h5, h6, h7, h8, h9, h10, h11, h12, h13, h14, h15, h16, h17, h18, h19, h20, h21, h22⟩ hi hd R hR
      have f1 := h1 (hd 1 (by kernel_rfl))
      have HR := Lib.hid hR
      clear hR
      rw [mk27]
      go_wp2_with fail
      refine ⟨upd t 8 (.pointer (some ⟨b, 0, none⟩)), by rw [mk27]; simp [upd, f1], HR.out _ _ ⟨hU.upd 8 _ (by decide), sB, (by simpa using cl), fun g => h0 (by simpa using g), fun g => h1 (by simpa using g), fun _ => rfl, fun g => h3 (by simpa using g), fun g => h4 (by simpa using g), fun g => h5 (by simpa using g), fun g => h6 (by simpa using g), fun g => h7 (by simpa using g), fun g => h8 (by simpa using g), fun g => h9 (by simpa using g), fun g => h10 (by simpa using g), fun g => h11 (by simpa using g), fun g => h12 (by simpa using g), fun g => h13 (by simpa using g), fun g => h14 (by simpa using g), fun g => h15 (by simpa using g), fun g => h16 (by simpa using g), fun g => h17 (by simpa using g), fun g => h18 (by simpa using g), fun g => h19 (by simpa using g), fun g => h20 (by simpa using g), fun g => h21 (by simpa using g), fun g => h22 (by simpa using g)⟩⟩
    · rintro L t W ⟨hU, sB, cl, h0, h1, h2, h3, h4, h5, h6, h7, h8, h9, h10, h11, h12, h13, h14, h15, h16, h17, h18, h19, h20, h21, h22⟩ hi hd R hR
      have f2 := h2 (hd 2 (by kernel_rfl))
      have cq : W.cell? ⟨b, 0, none⟩ = some (.slice a len cap) := (sB.cell (p := ⟨b, 0, none⟩) hbl).trans q0
      have HR := Lib.hid hR
      clear hR
      rw [mk27]
      go_wp2_with fail
      refine ⟨upd t 9 (.agg #[.slice a len cap]), by rw [mk27]; simp [upd, f2], HR.out _ _ ⟨hU.upd 9 _ (by decide), sB, (by simpa using cl), fun g => h0 (by simpa using g), fun g => h1 (by simpa using g), fun g => h2 (by simpa using g), fun _ => rfl, fun g => h4 (by simpa using g), fun g => h5 (by simpa using g), fun g => h6 (by simpa using g), fun g => h7 (by simpa using g), fun g => h8 (by simpa using g), fun g => h9 (by simpa using g), fun g => h10 (by simpa using g), fun g => h11 (by simpa using g), fun g => h12 (by simpa using g), fun g => h13 (by simpa using g), fun g => h14 (by simpa using g), fun g => h15 (by simpa using g), fun g => h16 (by simpa using g), fun g => h17 (by simpa using g), fun g => h18 (by simpa using g), fun g => h19 (by simpa using g), fun g => h20 (by simpa using g), fun g => h21 (by simpa using g), fun g => h22 (by simpa using g)⟩⟩
    · rintro L t W ⟨hU, sB, cl, h0, h1, h2, h3, h4, h5, h6, h7, h8, h9, h10, h11, h12, h13, h14, h15, h16, h17, h18, h19, h20, h21, h22⟩ hi hd R hR
      have b0 : t 0 = .pointer (some ⟨b, 0, none⟩) := hU 0 (by decide)
      have HR := Lib.hid hR
      clear hR
      rw [mk27]
      go_wp2_with fail
      refine ⟨upd t 10 (.pointer (some ⟨b, 0, none⟩)), by rw [mk27]; simp [upd, b0], HR.out _ _ ⟨hU.upd 10 _ (by decide), sB, (by simpa using cl), fun g => h0 (by simpa using g), fun g => h1 (by simpa using g), fun g => h2 (by simpa using g), fun g => h3 (by simpa using g), fun _ => rfl, fun g => h5 (by simpa using g), fun g => h6 (by simpa using g), fun g => h7 (by simpa using g), fun g => h8 (by simpa using g), fun g => h9 (by simpa using g), fun g => h10 (by simpa using g), fun g => h11 (by simpa using g), fun g => h12 (by simpa using g), fun g => h13 (by simpa using g), fun g => h14 (by simpa using g), fun g => h15 (by simpa using g), fun g => h16 (by simpa using g), fun g => h17 (by simpa using g), fun g => h18 (by simpa using g), fun g => h19 (by simpa using g), fun g => h20 (by simpa using g), fun g => h21 (by simpa using g), fun g => h22 (by simpa using g)⟩⟩
    · rintro L t W ⟨hU, sB, cl, h0, h1, h2, h3, h4, h5, h6, h7, h8, h9, h10, h11, h12, h13, h14, h15, h16, h17, h18, h19, h20, h21, h22⟩ hi hd R hR
      have f4 := h4 (hd 4 (by kernel_rfl))
      have HR := Lib.hid hR
      clear hR
      rw [mk27]
      go_wp2_with fail
      refine ⟨upd t 11 (.pointer (some ⟨b, 0, none⟩)), by rw [mk27]; simp [upd, f4], HR.out _ _ ⟨hU.upd 11 _ (by decide), sB, (by simpa using cl), fun g => h0 (by simpa using g), fun g => h1 (by simpa using g), fun g => h2 (by simpa using g), fun g => h3 (by simpa using g), fun g => h4 (by simpa using g), fun _ => rfl, fun g => h6 (by simpa using g), fun g => h7 (by simpa using g), fun g => h8 (by simpa using g), fun g => h9 (by simpa using g), fun g => h10 (by simpa using g), fun g => h11 (by simpa using g), fun g => h12 (by simpa using g), fun g => h13 (by simpa using g), fun g => h14 (by simpa using g), fun g => h15 (by simpa using g), fun g => h16 (by simpa using g), fun g => h17 (by simpa using g), fun g => h18 (by simpa using g), fun g => h19 (by simpa using g), fun g => h20 (by simpa using g), fun g => h21 (by simpa using g), fun g => h22 (by simpa using g)⟩⟩
    · rintro L t W ⟨hU, sB, cl, h0, h1, h2, h3, h4, h5, h6, h7, h8, h9, h10, h11, h12, h13, h14, h15, h16, h17, h18, h19, h20, h21, h22⟩ hi hd R hR
      have f5 := h5 (hd 5 (by kernel_rfl))
      have HR := Lib.hid hR
      clear hR
      rw [mk27]
      go_wp2_with fail
      refine ⟨upd t 12 (.pointer (some ⟨b, 1, none⟩)), by rw [mk27]; simp [upd, f5], HR.out _ _ ⟨hU.upd 12 _ (by decide), sB, (by simpa using cl), fun g => h0 (by simpa using g), fun g => h1 (by simpa using g), fun g => h2 (by simpa using g), fun g => h3 (by simpa using g), fun g => h4 (by simpa using g), fun g => h5 (by simpa using g), fun _ => rfl, fun g => h7 (by simpa using g), fun g => h8 (by simpa using g), fun g => h9 (by simpa using g), fun g => h10 (by simpa using g), fun g => h11 (by simpa using g), fun g => h12 (by simpa using g), fun g => h13 (by simpa using g), fun g => h14 (by simpa using g), fun g => h15 (by simpa using g), fun g => h16 (by simpa using g), fun g => h17 (by simpa using g), fun g => h18 (by simpa using g), fun g => h19 (by simpa using g), fun g => h20 (by simpa using g), fun g => h21 (by simpa using g), fun g => h22 (by simpa using g)⟩⟩
    · rintro L t W ⟨hU, sB, cl, h0, h1, h2, h3, h4, h5, h6, h7, h8, h9, h10, h11, h12, h13, h14, h15, h16, h17, h18, h19, h20, h21, h22⟩ hi hd R hR
      have f6 := h6 (hd 6 (by kernel_rfl))
      have cq : W.cell? ⟨b, 1, none⟩ = some (.int .i64 i1) := (sB.cell (p := ⟨b, 1, none⟩) hbl).trans q1
      have HR := Lib.hid hR
      clear hR
      rw [mk27]
      go_wp2_with fail
      refine ⟨upd t 13 (.int .i64 i1), by rw [mk27]; simp [upd, f6], HR.out _ _ ⟨hU.upd 13 _ (by decide), sB, (by simpa using cl), fun g => h0 (by simpa using g), fun g => h1 (by simpa using g), fun g => h2 (by simpa using g), fun g => h3 (by simpa using g), fun g => h4 (by simpa using g), fun g => h5 (by simpa using g), fun g => h6 (by simpa using g), fun _ => rfl, fun g => h8 (by simpa using g), fun g => h9 (by simpa using g), fun g => h10 (by simpa using g), fun g => h11 (by simpa using g), fun g => h12 (by simpa using g), fun g => h13 (by simpa using g), fun g => h14 (by simpa using g), fun g => h15 (by simpa using g), fun g => h16 (by simpa using g), fun g => h17 (by simpa using g), fun g => h18 (by simpa using g), fun g => h19 (by simpa using g), fun g => h20 (by simpa using g), fun g => h21 (by simpa using g), fun g => h22 (by simpa using g)⟩⟩
    · rintro L t W ⟨hU, sB, cl, h0, h1, h2, h3, h4, h5, h6, h7, h8, h9, h10, h11, h12, h13, h14, h15, h16, h17, h18, h19, h20, h21, h22⟩ hi hd R hR
      have b0 : t 0 = .pointer (some ⟨b, 0, none⟩) := hU 0 (by decide)
      have HR := Lib.hid hR
      clear hR
      rw [mk27]
      go_wp2_with fail
      refine ⟨upd t 14 (.pointer (some ⟨b, 0, none⟩)), by rw [mk27]; simp [upd, b0], HR.out _ _ ⟨hU.upd 14 _ (by decide), sB, (by simpa using cl), fun g => h0 (by simpa using g), fun g => h1 (by simpa using g), fun g => h2 (by simpa using g), fun g => h3 (by simpa using g), fun g => h4 (by simpa using g), fun g => h5 (by simpa using g), fun g => h6 (by simpa using g), fun g => h7 (by simpa using g), fun _ => rfl, fun g => h9 (by simpa using g), fun g => h10 (by simpa using g), fun g => h11 (by simpa using g), fun g => h12 (by simpa using g), fun g => h13 (by simpa using g), fun g => h14 (by simpa using g), fun g => h15 (by simpa using g), fun g => h16 (by simpa using g), fun g => h17 (by simpa using g), fun g => h18 (by simpa using g), fun g => h19 (by simpa using g), fun g => h20 (by simpa using g), fun g => h21 (by simpa using g), fun g => h22 (by simpa using g)⟩⟩
    · rintro L t W ⟨hU, sB, cl, h0, h1, h2, h3, h4, h5, h6, h7, h8, h9, h10, h11, h12, h13, h14, h15, h16, h17, h18, h19, h20, h21, h22⟩ hi hd R hR
      have f8 := h8 (hd 8 (by kernel_rfl))
      have HR := Lib.hid hR
      clear hR
      rw [mk27]
      go_wp2_with fail
      refine ⟨upd t 15 (.pointer (some ⟨b, 0, none⟩)), by rw [mk27]; simp [upd, f8], HR.out _ _ ⟨hU.upd 15 _ (by decide), sB, (by simpa using cl), fun g => h0 (by simpa using g), fun g => h1 (by simpa using g), fun g => h2 (by simpa using g), fun g => h3 (by simpa using g), fun g => h4 (by simpa using g), fun g => h5 (by simpa using g), fun g => h6 (by simpa using g), fun g => h7 (by simpa using g), fun g => h8 (by simpa using g), fun _ => rfl, fun g => h10 (by simpa using g), fun g => h11 (by simpa using g), fun g => h12 (by simpa using g), fun g => h13 (by simpa using g), fun g => h14 (by simpa using g), fun g => h15 (by simpa using g), fun g => h16 (by simpa using g), fun g => h17 (by simpa using g), fun g => h18 (by simpa using g), fun g => h19 (by simpa using g), fun g => h20 (by simpa using g), fun g => h21 (by simpa using g), fun g => h22 (by simpa using g)⟩⟩
    · rintro L t W ⟨hU, sB, cl, h0, h1, h2, h3, h4, h5, h6, h7, h8, h9, h10, h11, h12, h13, h14, h15, h16, h17, h18, h19, h20, h21, h22⟩ hi hd R hR
      have f9 := h9 (hd 9 (by kernel_rfl))
      have HR := Lib.hid hR
      clear hR
      rw [mk27]
      go_wp2_with fail
      refine ⟨upd t 16 (.pointer (some ⟨b, 2, none⟩)), by rw [mk27]; simp [upd, f9], HR.out _ _ ⟨hU.upd 16 _ (by decide), sB, (by simpa using cl), fun g => h0 (by simpa using g), fun g => h1 (by simpa using g), fun g => h2 (by simpa using g), fun g => h3 (by simpa using g), fun g => h4 (by simpa using g), fun g => h5 (by simpa using g), fun g => h6 (by simpa using g), fun g => h7 (by simpa using g), fun g => h8 (by simpa using g), fun g => h9 (by simpa using g), fun _ => rfl, fun g => h11 (by simpa using g), fun g => h12 (by simpa using g), fun g => h13 (by simpa using g), fun g => h14 (by simpa using g), fun g => h15 (by simpa using g), fun g => h16 (by simpa using g), fun g => h17 (by simpa using g), fun g => h18 (by simpa using g), fun g => h19 (by simpa using g), fun g => h20 (by simpa using g), fun g => h21 (by simpa using g), fun g => h22 (by simpa using g)⟩⟩
    · rintro L t W ⟨hU, sB, cl, h0, h1, h2, h3, h4, h5, h6, h7, h8, h9, h10, h11, h12, h13, h14, h15, h16, h17, h18, h19, h20, h21, h22⟩ hi hd R hR
      have f10 := h10 (hd 10 (by kernel_rfl))
      have cq : W.cell? ⟨b, 2, none⟩ = some (.string s2) := (sB.cell (p := ⟨b, 2, none⟩) hbl).trans q2
      have HR := Lib.hid hR
      clear hR
      rw [mk27]
      go_wp2_with fail
      refine ⟨upd t 17 (.string s2), by rw [mk27]; simp [upd, f10], HR.out _ _ ⟨hU.upd 17 _ (by decide), sB, (by simpa using cl), fun g => h0 (by simpa using g), fun g => h1 (by simpa using g), fun g => h2 (by simpa using g), fun g => h3 (by simpa using g), fun g => h4 (by simpa using g), fun g => h5 (by simpa using g), fun g => h6 (by simpa using g), fun g => h7 (by simpa using g), fun g => h8 (by simpa using g), fun g => h9 (by simpa using g), fun g => h10 (by simpa using g), fun _ => rfl, fun g => h12 (by simpa using g), fun g => h13 (by simpa using g), fun g => h14 (by simpa using g), fun g => h15 (by simpa using g), fun g => h16 (by simpa using g), fun g => h17 (by simpa using g), fun g => h18 (by simpa using g), fun g => h19 (by simpa using g), fun g => h20 (by simpa using g), fun g => h21 (by simpa using g), fun g => h22 (by simpa using g)⟩⟩
    · rintro L t W ⟨hU, sB, cl, h0, h1, h2, h3, h4, h5, h6, h7, h8, h9, h10, h11, h12, h13, h14, h15, h16, h17, h18, h19, h20, h21, h22⟩ hi hd R hR
      have b0 : t 0 = .pointer (some ⟨b, 0, none⟩) := hU 0 (by decide)
      have HR := Lib.hid hR
      clear hR
      rw [mk27]
      go_wp2_with fail
      refine ⟨upd t 18 (.pointer (some ⟨b, 0, none⟩)), by rw [mk27]; simp [upd, b0], HR.out _ _ ⟨hU.upd 18 _ (by decide), sB, (by simpa using cl), fun g => h0 (by simpa using g), fun g => h1 (by simpa using g), fun g => h2 (by simpa using g), fun g => h3 (by simpa using g), fun g => h4 (by simpa using g), fun g => h5 (by simpa using g), fun g => h6 (by simpa using g), fun g => h7 (by simpa using g), fun g => h8 (by simpa using g), fun g => h9 (by simpa using g), fun g => h10 (by simpa using g), fun g => h11 (by simpa using g), fun _ => rfl, fun g => h13 (by simpa using g), fun g => h14 (by simpa using g), fun g => h15 (by simpa using g), fun g => h16 (by simpa using g), fun g => h17 (by simpa using g), fun g => h18 (by simpa using g), fun g => h19 (by simpa using g), fun g => h20 (by simpa using g), fun g => h21 (by simpa using g), fun g => h22 (by simpa using g)⟩⟩
    · rintro L t W ⟨hU, sB, cl, h0, h1, h2, h3, h4, h5, h6, h7, h8, h9, h10, h11, h12, h13, h14, h15, h16, h17, h18, h19, h20, h21, h22⟩ hi hd R hR
      have f12 := h12 (hd 12 (by kernel_rfl))
      have HR := Lib.hid hR
      clear hR
      rw [mk27]
      go_wp2_with fail
      refine ⟨upd t 19 (.pointer (some ⟨b, 0, none⟩)), by rw [mk27]; simp [upd, f12], HR.out _ _ ⟨hU.upd 19 _ (by decide), sB, (by simpa using cl), fun g => h0 (by simpa using g), fun g => h1 (by simpa using g), fun g => h2 (by simpa using g), fun g => h3 (by simpa using g), fun g => h4 (by simpa using g), fun g => h5 (by simpa using g), fun g => h6 (by simpa using g), fun g => h7 (by simpa using g), fun g => h8 (by simpa using g), fun g => h9 (by simpa using g), fun g => h10 (by simpa using g), fun g => h11 (by simpa using g), fun g => h12 (by simpa using g), fun _ => rfl, fun g => h14 (by simpa using g), fun g => h15 (by simpa using g), fun g => h16 (by simpa using g), fun g => h17 (by simpa using g), fun g => h18 (by simpa using g), fun g => h19 (by simpa using g), fun g => h20 (by simpa using g), fun g => h21 (by simpa using g), fun g => h22 (by simpa using g)⟩⟩
    · rintro L t W ⟨hU, sB, cl, h0, h1, h2, h3, h4, h5, h6, h7, h8, h9, h10, h11, h12, h13, h14, h15, h16, h17, h18, h19, h20, h21, h22⟩ hi hd R hR
      have f13 := h13 (hd 13 (by kernel_rfl))
      have HR := Lib.hid hR
      clear hR
      rw [mk27]
      go_wp2_with fail
      refine ⟨upd t 20 (.pointer (some ⟨b, 3, none⟩)), by rw [mk27]; simp [upd, f13], HR.out _ _ ⟨hU.upd 20 _ (by decide), sB, (by simpa using cl), fun g => h0 (by simpa using g), fun g => h1 (by simpa using g), fun g => h2 (by simpa using g), fun g => h3 (by simpa using g), fun g => h4 (by simpa using g), fun g => h5 (by simpa using g), fun g => h6 (by simpa using g), fun g => h7 (by simpa using g), fun g => h8 (by simpa using g), fun g => h9 (by simpa using g), fun g => h10 (by simpa using g), fun g => h11 (by simpa using g), fun g => h12 (by simpa using g), fun g => h13 (by simpa using g), fun _ => rfl, fun g => h15 (by simpa using g), fun g => h16 (by simpa using g), fun g => h17 (by simpa using g), fun g => h18 (by simpa using g), fun g => h19 (by simpa using g), fun g => h20 (by simpa using g), fun g => h21 (by simpa using g), fun g => h22 (by simpa using g)⟩⟩
    · rintro L t W ⟨hU, sB, cl, h0, h1, h2, h3, h4, h5, h6, h7, h8, h9, h10, h11, h12, h13, h14, h15, h16, h17, h18, h19, h20, h21, h22⟩ hi hd R hR
      have f14 := h14 (hd 14 (by kernel_rfl))
      have cq : W.cell? ⟨b, 3, none⟩ = some (.string s3) := (sB.cell (p := ⟨b, 3, none⟩) hbl).trans q3
      have HR := Lib.hid hR
      clear hR
      rw [mk27]
      go_wp2_with fail
      refine ⟨upd t 21 (.string s3), by rw [mk27]; simp [upd, f14], HR.out _ _ ⟨hU.upd 21 _ (by decide), sB, (by simpa using cl), fun g => h0 (by simpa using g), fun g => h1 (by simpa using g), fun g => h2 (by simpa using g), fun g => h3 (by simpa using g), fun g => h4 (by simpa using g), fun g => h5 (by simpa using g), fun g => h6 (by simpa using g), fun g => h7 (by simpa using g), fun g => h8 (by simpa using g), fun g => h9 (by simpa using g), fun g => h10 (by simpa using g), fun g => h11 (by simpa using g), fun g => h12 (by simpa using g), fun g => h13 (by simpa using g), fun g => h14 (by simpa using g), fun _ => rfl, fun g => h16 (by simpa using g), fun g => h17 (by simpa using g), fun g => h18 (by simpa using g), fun g => h19 (by simpa using g), fun g => h20 (by simpa using g), fun g => h21 (by simpa using g), fun g => h22 (by simpa using g)⟩⟩
    · rintro L t W ⟨hU, sB, cl, h0, h1, h2, h3, h4, h5, h6, h7, h8, h9, h10, h11, h12, h13, h14, h15, h16, h17, h18, h19, h20, h21, h22⟩ hi hd R hR
      have f3 := h3 (hd 3 (by kernel_rfl))
      have f7 := h7 (hd 7 (by kernel_rfl))
      have f11 := h11 (hd 11 (by kernel_rfl))
      have f15 := h15 (hd 15 (by kernel_rfl))
      have HR := Lib.hid hR
      clear hR
      rw [mk27]
      go_wp2_with fail
      refine (HC.out W.heap.size W (Nat.le_refl _) sB).mono ?_
      rintro e W2 ⟨a1, l1, c1, n, rfl, ⟨len1, cap1, rows1, m1, m2, m3⟩, hb, hbW⟩
      dsimp only
      go_wp2_with fail
      refine ⟨upd t 22 (.tuple #[.agg #[.slice a1 l1 c1], .int .i64 n]), by rw [mk27]; simp [upd, f3, f7, f11, f15], HR.out _ _ ⟨hU.upd 22 _ (by decide), hbW, (by simp; exact cl.2.2.2.2), fun g => h0 (by simpa using g), fun g => h1 (by simpa using g), fun g => h2 (by simpa using g), fun g => h3 (by simpa using g), fun g => h4 (by simpa using g), fun g => h5 (by simpa using g), fun g => h6 (by simpa using g), fun g => h7 (by simpa using g), fun g => h8 (by simpa using g), fun g => h9 (by simpa using g), fun g => h10 (by simpa using g), fun g => h11 (by simpa using g), fun g => h12 (by simpa using g), fun g => h13 (by simpa using g), fun g => h14 (by simpa using g), fun g => h15 (by simpa using g), fun _ => ⟨a1, l1, c1, n, rfl, len1, cap1, rows1, Rd.mono (fun k hk => ⟨⟨(Nw.lower sB.size k hk).1, (fun hL e => by obtain ⟨p, x, e1, _, e3⟩ := h20 (by simpa using hL); have e4 : t 3 = _ := e; rw [e1] at e4; injection e4 with e4; injection e4 with e4; injection e4 with e4; have := (Array.getElem?_eq_some_iff.1 e3).1; have := hk.1; omega)⟩, rfl⟩) _ _ m1, m2, m3⟩, fun g => absurd (cl.1 (by simpa using g)) (by simp [hi]), fun g => absurd (cl.2.1 (by simpa using g)) (by simp [hi]), fun g => absurd (cl.2.2.1 (by simpa using g)) (by simp [hi]), fun g => (by obtain ⟨p, x, e1, e2, e3⟩ := (h20 (by simpa using g)); exact ⟨p, x, e1, e2, (hb.block _ (Array.getElem?_eq_some_iff.1 e3).1).trans e3⟩), fun g => absurd (cl.2.2.2.1 (by simpa using g)) (by simp [hi]), fun g => h22 (by simpa using g)⟩⟩
    · rintro L t W ⟨hU, sB, cl, h0, h1, h2, h3, h4, h5, h6, h7, h8, h9, h10, h11, h12, h13, h14, h15, h16, h17, h18, h19, h20, h21, h22⟩ hi hd R hR
      have f16 := h16 (hd 16 (by kernel_rfl))
      obtain ⟨a1, l1, c1, n, e1, _⟩ := f16
      have q16 : L 16 = true := hd 16 (by kernel_rfl)
      have HR := Lib.hid hR
      clear hR
      rw [mk27]
      go_wp2_with fail
      refine ⟨upd t 5 (.tuple #[.agg #[.slice a1 l1 c1], .int .i64 n]), by rw [mk27]; simp [upd, e1], HR.out _ _ ⟨hU.upd 5 _ (by decide), sB, (by simp [q16]; exact cl.2.2.2.2), fun g => h0 (by simpa using g), fun g => h1 (by simpa using g), fun g => h2 (by simpa using g), fun g => h3 (by simpa using g), fun g => h4 (by simpa using g), fun g => h5 (by simpa using g), fun g => h6 (by simpa using g), fun g => h7 (by simpa using g), fun g => h8 (by simpa using g), fun g => h9 (by simpa using g), fun g => h10 (by simpa using g), fun g => h11 (by simpa using g), fun g => h12 (by simpa using g), fun g => h13 (by simpa using g), fun g => h14 (by simpa using g), fun g => h15 (by simpa using g), fun g => h16 (by simpa using g), fun _ => ⟨a1, l1, c1, n, e1, rfl⟩, fun g => h18 (by simpa using g), fun g => h19 (by simpa using g), fun g => h20 (by simpa using g), fun g => h21 (by simpa using g), fun g => h22 (by simpa using g)⟩⟩
    · rintro L t W ⟨hU, sB, cl, h0, h1, h2, h3, h4, h5, h6, h7, h8, h9, h10, h11, h12, h13, h14, h15, h16, h17, h18, h19, h20, h21, h22⟩ hi hd R hR
      have f17 := h17 (hd 17 (by kernel_rfl))
      obtain ⟨a1, l1, c1, n, e1, e2⟩ := f17
      have q16 : L 16 = true := cl.1 (hd 17 (by kernel_rfl))
      have HR := Lib.hid hR
      clear hR
      rw [mk27]
      go_wp2_with fail
      refine ⟨upd t 23 (.agg #[.slice a1 l1 c1]), by rw [mk27]; simp [upd, e2, e1], HR.out _ _ ⟨hU.upd 23 _ (by decide), sB, (by simp [q16]; exact cl.2.2.2.2), fun g => h0 (by simpa using g), fun g => h1 (by simpa using g), fun g => h2 (by simpa using g), fun g => h3 (by simpa using g), fun g => h4 (by simpa using g), fun g => h5 (by simpa using g), fun g => h6 (by simpa using g), fun g => h7 (by simpa using g), fun g => h8 (by simpa using g), fun g => h9 (by simpa using g), fun g => h10 (by simpa using g), fun g => h11 (by simpa using g), fun g => h12 (by simpa using g), fun g => h13 (by simpa using g), fun g => h14 (by simpa using g), fun g => h15 (by simpa using g), fun g => h16 (by simpa using g), fun g => h17 (by simpa using g), fun _ => ⟨a1, l1, c1, n, e1, rfl⟩, fun g => h19 (by simpa using g), fun g => h20 (by simpa using g), fun g => h21 (by simpa using g), fun g => h22 (by simpa using g)⟩⟩
    · rintro L t W ⟨hU, sB, cl, h0, h1, h2, h3, h4, h5, h6, h7, h8, h9, h10, h11, h12, h13, h14, h15, h16, h17, h18, h19, h20, h21, h22⟩ hi hd R hR
      have f17 := h17 (hd 17 (by kernel_rfl))
      obtain ⟨a1, l1, c1, n, e1, e2⟩ := f17
      have q16 : L 16 = true := cl.1 (hd 17 (by kernel_rfl))
      have HR := Lib.hid hR
      clear hR
      rw [mk27]
      go_wp2_with fail
      refine ⟨upd t 24 (.int .i64 n), by rw [mk27]; simp [upd, e2, e1], HR.out _ _ ⟨hU.upd 24 _ (by decide), sB, (by simp [q16]; exact cl.2.2.2.2), fun g => h0 (by simpa using g), fun g => h1 (by simpa using g), fun g => h2 (by simpa using g), fun g => h3 (by simpa using g), fun g => h4 (by simpa using g), fun g => h5 (by simpa using g), fun g => h6 (by simpa using g), fun g => h7 (by simpa using g), fun g => h8 (by simpa using g), fun g => h9 (by simpa using g), fun g => h10 (by simpa using g), fun g => h11 (by simpa using g), fun g => h12 (by simpa using g), fun g => h13 (by simpa using g), fun g => h14 (by simpa using g), fun g => h15 (by simpa using g), fun g => h16 (by simpa using g), fun g => h17 (by simpa using g), fun g => h18 (by simpa using g), fun _ => ⟨a1, l1, c1, n, e1, rfl⟩, fun g => h20 (by simpa using g), fun g => h21 (by simpa using g), fun g => h22 (by simpa using g)⟩⟩
    · rintro L t W ⟨hU, sB, cl, h0, h1, h2, h3, h4, h5, h6, h7, h8, h9, h10, h11, h12, h13, h14, h15, h16, h17, h18, h19, h20, h21, h22⟩ hi hd R hR
      have hb : Below W.heap.size W (W.alloc (Obj.cells #[.slice none 0 0] 24)) := (Below.refl _ _).alloc (Nat.le_refl _) _
      have HR := Lib.hid hR
      clear hR
      rw [mk27]
      go_wp2_with fail
      refine ⟨upd t 3 (.pointer (some ⟨W.heap.size, 0, none⟩)), by rw [mk27]; simp [upd], HR.out _ _ ⟨hU.upd 3 _ (by decide), sB.alloc sB.size _, (by simp; exact ⟨cl.1, cl.2.1, cl.2.2.1, cl.2.2.2.1⟩), fun g => h0 (by simpa using g), fun g => h1 (by simpa using g), fun g => h2 (by simpa using g), fun g => h3 (by simpa using g), fun g => h4 (by simpa using g), fun g => h5 (by simpa using g), fun g => h6 (by simpa using g), fun g => h7 (by simpa using g), fun g => h8 (by simpa using g), fun g => h9 (by simpa using g), fun g => h10 (by simpa using g), fun g => h11 (by simpa using g), fun g => h12 (by simpa using g), fun g => h13 (by simpa using g), fun g => h14 (by simpa using g), fun g => h15 (by simpa using g), fun g => (by obtain ⟨a1, l1, c1, n, e1, len1, cap1, rows1, m1, m2, m3⟩ := (h16 (by simpa using g)); exact ⟨a1, l1, c1, n, e1, len1, cap1, rows1, Rd.mono (fun k hk => ⟨⟨(nw_below hb hk.1).1, (fun _ e => by have e4 : Value.pointer (some ⟨W.heap.size, 0, none⟩) = .pointer (some ⟨k, 0, none⟩) := e; injection e4 with e4; injection e4 with e4; injection e4 with e4; have := hk.1.2.1; omega)⟩, (nw_below hb hk.1).2⟩) _ _ m1, m2, m3⟩), fun g => h17 (by simpa using g), fun g => h18 (by simpa using g), fun g => h19 (by simpa using g), fun _ => ⟨W.heap.size, _, rfl, sB.size, heap_alloc_new _ _⟩, fun g => absurd (cl.2.2.2.2 (by simpa using g)) (by simp [hi]), fun g => h22 (by simpa using g)⟩⟩
    · rintro L t W ⟨hU, sB, cl, h0, h1, h2, h3, h4, h5, h6, h7, h8, h9, h10, h11, h12, h13, h14, h15, h16, h17, h18, h19, h20, h21, h22⟩ hi hd R hR
      have f18 := h18 (hd 18 (by kernel_rfl))
      have f20 := h20 (hd 20 (by kernel_rfl))
      obtain ⟨a1, l1, c1, n, e1, e2⟩ := f18
      obtain ⟨p, x, y1, y2, y3⟩ := f20
      have q16 : L 16 = true := cl.2.1 (hd 18 (by kernel_rfl))
      have q20 : L 20 = true := hd 20 (by kernel_rfl)
      have cp : W.cell? ⟨p, 0, none⟩ = some x := cell_of_row _ _ 0 _ _ _ y3
      have fp : W.frozen? ⟨p, 0, none⟩ = false := by simp [World.frozen?, y3]
      have HR := Lib.hid hR
      clear hR
      rw [mk27]
      go_wp2_with fail
      refine ⟨t, by rw [mk27]; simp [y1, e2, e1], HR.out _ _ ⟨hU, sB.setCell (p := ⟨p, 0, none⟩) y2 _, (by simp [q16, q20]), fun g => h0 (by simpa using g), fun g => h1 (by simpa using g), fun g => h2 (by simpa using g), fun g => h3 (by simpa using g), fun g => h4 (by simpa using g), fun g => h5 (by simpa using g), fun g => h6 (by simpa using g), fun g => h7 (by simpa using g), fun g => h8 (by simpa using g), fun g => h9 (by simpa using g), fun g => h10 (by simpa using g), fun g => h11 (by simpa using g), fun g => h12 (by simpa using g), fun g => h13 (by simpa using g), fun g => h14 (by simpa using g), fun g => h15 (by simpa using g), fun g => (by obtain ⟨a2, l2, c2, n2, e3, len1, cap1, rows1, m1, m2, m3⟩ := (h16 (by simpa using g)); exact ⟨a2, l2, c2, n2, e3, len1, cap1, rows1, Rd.mono (fun k hk => by have hkp : k ≠ p := fun e => hk.2 q20 (by rw [y1, e]); have h9 := Below.heap_setCell W ⟨p, 0, none⟩ (.slice a1 l1 c1) k hkp; obtain ⟨⟨k1, k2, cc, ee, k3⟩, k4⟩ := hk; exact ⟨⟨⟨k1, by rw [setCell_size]; exact k2, cc, ee, h9.trans k3⟩, fun _ => k4 q20⟩, h9⟩) _ _ m1, m2, m3⟩), fun g => h17 (by simpa using g), fun g => h18 (by simpa using g), fun g => h19 (by simpa using g), fun g => ⟨p, _, y1, y2, setCell_one y3⟩, fun _ => ⟨p, a1, l1, c1, n, y1, e1, setCell_one y3⟩, fun g => h22 (by simpa using g)⟩⟩
    · rintro L t W ⟨hU, sB, cl, h0, h1, h2, h3, h4, h5, h6, h7, h8, h9, h10, h11, h12, h13, h14, h15, h16, h17, h18, h19, h20, h21, h22⟩ hi hd R hR
      have f19 := h19 (hd 19 (by kernel_rfl))
      obtain ⟨a1, l1, c1, n, e1, e2⟩ := f19
      have HR := Lib.hid hR
      clear hR
      rw [mk27]
      go_wp2_with fail
      refine ⟨upd t 4 (.int .i64 n), by rw [mk27]; simp [upd, e2, e1], HR.out _ _ ⟨hU.upd 4 _ (by decide), sB, (by simpa using cl), fun g => h0 (by simpa using g), fun g => h1 (by simpa using g), fun g => h2 (by simpa using g), fun g => h3 (by simpa using g), fun g => h4 (by simpa using g), fun g => h5 (by simpa using g), fun g => h6 (by simpa using g), fun g => h7 (by simpa using g), fun g => h8 (by simpa using g), fun g => h9 (by simpa using g), fun g => h10 (by simpa using g), fun g => h11 (by simpa using g), fun g => h12 (by simpa using g), fun g => h13 (by simpa using g), fun g => h14 (by simpa using g), fun g => h15 (by simpa using g), fun g => h16 (by simpa using g), fun g => h17 (by simpa using g), fun g => h18 (by simpa using g), fun g => h19 (by simpa using g), fun g => h20 (by simpa using g), fun g => h21 (by simpa using g), fun _ => ⟨n, rfl⟩⟩⟩
  case last =>
    rintro L t W hU ⟨sB, cl, h0, h1, h2, h3, h4, h5, h6, h7, h8, h9, h10, h11, h12, h13, h14, h15, h16, h17, h18, h19, h20, h21, h22⟩ hall
    obtain ⟨a1, l1, c1, n, e1, len1, cap1, rows1, m1, m2, m3⟩ := h16 (hall 16 (by decide))
    obtain ⟨p, x, y1, y2, _⟩ := h20 (hall 20 (by decide))
    obtain ⟨p', a2, l2, c2, n2, z1, z2, z3⟩ := h21 (hall 21 (by decide))
    have ep : p' = p := by rw [y1] at z1; injection z1 with z1; injection z1 with z1; injection z1 with z1; exact z1.symm
    subst ep
    rw [e1] at z2
    simp only [Value.tuple.injEq, Array.mk.injEq, List.cons.injEq, Value.agg.injEq, Value.slice.injEq, Value.int.injEq, and_true, true_and] at z2
    obtain ⟨⟨rfl, rfl, rfl⟩, rfl⟩ := z2
    obtain ⟨outs, hg⟩ := gave_cell (T := 24) (E := 38) (n := limO) (B := w.heap.size) (see_f28 limO) (fun _ _ => rfl) y2 z3 (c := .sl 4 len1 cap1 rows1) (t := .sl 107)
      (Rd.mono (fun k hk => ⟨hk.1, rfl⟩) _ _ m1) (by simp only [Ht]; exact ⟨107, rfl, rfl, m2⟩) (by simp only [nodes, limO]; omega) (by simp only [nodes, limO]; omega)
    have hB := sB.alloc sB.size (Obj.cells #[Value.func (.func 28) #[] #[.pointer (some ⟨p', 0, none⟩)]] 38)
    have HG := Lib.hid (And.intro hg hB)
    have b0 := hU 0 (by decide)
    have b1 := hU 1 (by decide)
    have b2 := hU 2 (by decide)
    have b25 := hU 25 (by decide)
    have b26 := hU 26 (by decide)
    simp at b0 b1 b2 b25 b26
    clear hg hB m1 m2 m3 z3 h0 h1 h2 h3 h4 h5 h6 h7 h8 h9 h10 h11 h12 h13 h14 h15 h16 h17 h18 h19 h20 h21 h22
    rw [mk27]
    simp only [b0, b1, b2, b25, b26, y1]
    go_wp2_with fail
    go_ret
    exact ⟨_, outs, rfl, HG.out.1, HG.out.2⟩
end Go.Proofs.YtomnkglnbmnmpaaGreatDoor
namespace Go.Proofs.YtomnkglnbmnmpaaGreatDoor
open Go.RowKit Go.Vt Go.Proofs
theorem vals_at_Attrs {F : Nat → Prop} {w : World} {vs : List Value} {cs : List C} (ht : HtRow tab [.sl 107, .int .i64, .str, .str, .str] cs) (hr : RdVals F w cs vs) : ∃ a1 l1 k1 n1 s2 s3 s4, vs = [.slice a1 l1 k1, .int .i64 n1, .string s2, .string s3, .string s4] := by
  obtain ⟨c0, cs0, rfl, a0x, ht1⟩ := ht.cons
  obtain ⟨v0, vs0, rfl, b0, hr1⟩ := hr.cons
  obtain ⟨c1, cs1, rfl, a1x, ht2⟩ := ht1.cons
  obtain ⟨v1, vs1, rfl, b1, hr2⟩ := hr1.cons
  obtain ⟨c2, cs2, rfl, a2x, ht3⟩ := ht2.cons
  obtain ⟨v2, vs2, rfl, b2, hr3⟩ := hr2.cons
  obtain ⟨c3, cs3, rfl, a3x, ht4⟩ := ht3.cons
  obtain ⟨v3, vs3, rfl, b3, hr4⟩ := hr3.cons
  obtain ⟨c4, cs4, rfl, a4x, ht5⟩ := ht4.cons
  obtain ⟨v4, vs4, rfl, b4, hr5⟩ := hr4.cons
  obtain rfl := ht5.nil
  obtain rfl := hr5.nil
  obtain ⟨x1, l1, k1, rfl⟩ := a0x.slf b0
  obtain ⟨n1, rfl⟩ := a1x.intf b1
  obtain ⟨s2, rfl⟩ := a2x.strf b2
  obtain ⟨s3, rfl⟩ := a3x.strf b3
  obtain ⟨s4, rfl⟩ := a4x.strf b4
  exact ⟨x1, l1, k1, n1, s2, s3, s4, rfl⟩
set_option maxRecDepth 100000 in
set_option maxHeartbeats 1000000 in
/-- The law's function returns true, whatever the tree, up to 2^30 values of data. -/
theorem top_is_Attrs (F : Nat → Prop) (w : World) (vs : List Value) (cs : List C) (hn : nodesRow cs ≤ 1073741824) (ht : HtRow tab [.sl 107, .int .i64, .str, .str, .str] cs) (hr : RdVals F w cs vs) (hF : ∀ k, F k → k < w.heap.size) :
    Calls Tryz.prog 4 #[.agg vs.toArray] w fun e w' => e = .returned (.bool true) ∧ Below w.heap.size w w' := by
  obtain ⟨a1, l1, k1, n1, s2, s3, s4, rfl⟩ := vals_at_Attrs ht hr
  obtain ⟨W1, hW1⟩ : ∃ W1, W1 = w.alloc (Obj.cells #[.slice a1 l1 k1, .int .i64 n1, .string s2, .string s3, .string s4] 45) := ⟨_, rfl⟩
  obtain ⟨W, hW⟩ : ∃ W, W = W1.alloc (Obj.cells #[.func (.func 24) #[] #[], .func (.func 26) #[] #[], .func (.func 29) #[] #[], .func (.func 32) #[] #[], .func (.func 36) #[] #[]] 52) := ⟨_, rfl⟩
  have s1 : W1.heap.size = w.heap.size + 1 := by rw [hW1, alloc_size]
  have sW : W.heap.size = w.heap.size + 2 := by rw [hW, alloc_size, s1]
  have hb : Below w.heap.size w W := by rw [hW, hW1]; exact ((Below.refl _ _).alloc (Nat.le_refl _) _).alloc (by rw [alloc_size]; omega) _
  have y : W.heap[w.heap.size + 1]? = some (.cells #[.func (.func 24) #[] #[], .func (.func 26) #[] #[], .func (.func 29) #[] #[], .func (.func 32) #[] #[], .func (.func 36) #[] #[]] 52 (0, 0)) := by rw [hW]; have := heap_alloc_new W1 (Obj.cells #[.func (.func 24) #[] #[], .func (.func 26) #[] #[], .func (.func 29) #[] #[], .func (.func 32) #[] #[], .func (.func 36) #[] #[]] 52); rwa [s1] at this
  have hc := apart_is_SharedAttrs see_seeSharedAttrs own_ownSharedAttrs F W _ cs (.slice (some ⟨w.heap.size + 1, 0, none⟩) 5 5) [24, 26, 29, 32, 36] hn ht (RdVals.mono (fun k hk => ⟨hk, hb.block k (hF k hk)⟩) _ _ hr) (fun k hk => Nat.lt_of_lt_of_le (hF k hk) hb.size)
    ⟨some ⟨w.heap.size + 1, 0, none⟩, 5, w.heap.size + 1, rfl, fun _ => ⟨rfl, by omega⟩, fun j u hu => by rw [cell_of_row _ _ j _ _ _ y]; simpa using hu⟩ (by decide) (by
      intro f hf
      simp only [List.mem_cons, List.not_mem_nil, or_false] at hf
      rcases hf with rfl | rfl | rfl | rfl | rfl
      · exact ⟨call_attrget _, fun _ _ => rfl⟩
      · exact ⟨call_set, fun _ _ => rfl⟩
      · exact ⟨call_unset, fun _ _ => rfl⟩
      · exact ⟨call_words, fun _ _ => rfl⟩
      · exact ⟨call_attrclass _, fun _ _ => rfl⟩)
  have HC := Lib.hid hc
  have HW := Lib.hid hW
  have HW1 := Lib.hid hW1
  have HB := Lib.hid hb
  clear hc hW hW1 hb y sW s1 hr ht hn hF
  go_enter Tryz.func4, Tryz.ntmps4
  go_wp2_with fail
  rw [← HW1.out, ← HW.out]
  refine HC.out.mono ?_
  rintro e w1 ⟨rfl, hb1⟩
  go_wp2_with fail
  refine (alive_ok w1).mono ?_
  rintro e w2 ⟨rfl, hb2⟩
  go_wp2_with fail
  go_ret
  have hb3 := HB.out.trans (hb1.mono HB.out.size)
  exact ⟨rfl, hb3.trans (hb2.mono hb3.size)⟩
end Go.Proofs.YtomnkglnbmnmpaaGreatDoor
