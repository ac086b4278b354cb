/- The call of link.All fulfils the law's contract. -/
import Derived.Test.YtomnkglnbmnmpaaGreatDoorCallLink
import Derived.Test.YtomnkglnbmnmpaaGreatDoorCallOrder
import Derived.WalkKit
import Derived.WalkSpells
import Derived.WalkLawsBesides
import Derived.Deep.RegionWith
import Derived.RegionTactic
namespace Go.Proofs.YtomnkglnbmnmpaaGreatDoor
open Go.RowKit Go.Vt Go.Proofs
set_option maxRecDepth 100000 in
set_option maxHeartbeats 4000000 in
theorem call_lall : CallOK Tryz.prog 3 9 tab limO 65 [.sl 107, .int .i64] := by
  intro F W b cs hn ht hr hb hF
  obtain ⟨a, len, cap, rows, i1, rfl, h1, h2, q0, q1⟩ := y_at_Link ht hr
  have hnn : nodesRows rows ≤ 500000000000 := by
    simp only [nodesRow, nodes, limY] at hn; omega
  have hbl : b < W.heap.size := hF b hb
  have hc : ∀ B W', B ≤ W'.heap.size → Below W.heap.size W W' → Calls Tryz.prog 66 #[.agg #[.slice a len cap], .int .i64 i1] W' fun e w' => ∃ a1 l1 c1 n, e = .returned (.tuple #[.slice a1 l1 c1, .int .i64 n]) ∧ NewInts B 300 w' (.slice a1 l1 c1) ∧ Below W'.heap.size W' w' ∧ Below W.heap.size W w' := by
    intro B W' hB hW
    refine (lall_ok F W' a i1 len cap rows (Rd.mono (fun k hk => ⟨hk, hW.block k (hF k hk)⟩) _ _ h1) h2 (fun k hk => Nat.lt_of_lt_of_le (hF k hk) hW.size) (by omega)).mono ?_
    rintro e w' ⟨⟨v, n, xs, rfl, ho, hxl, hx64⟩, hb⟩
    obtain ⟨a1, c1, rows', rfl, m1, m2, m3⟩ := nats_rd ho hxl (fun x hx => by have := hx64 x hx; omega)
    exact ⟨a1, _, c1, n, rfl, ⟨_, c1, rows', Rd.mono (Nw.lower hB) _ _ m1, m2, by omega⟩, hb, hW.trans (hb.mono hW.size)⟩
  have finA : ∀ w2 a1 l1 c1, NewInts (W.heap.size + 1) 300 w2 (.slice a1 l1 c1) → w2.heap[W.heap.size]? = some (.cells #[.slice none 0 0] 70 (0, 0)) → Below W.heap.size W w2 → ∃ outs, Gave Tryz.prog 3 9 tab limO W.heap.size ((w2.setCell ⟨W.heap.size, 0, none⟩ (.slice a1 l1 c1)).alloc (Obj.cells #[Value.func (.func 67) #[] #[.pointer (some ⟨W.heap.size, 0, none⟩)]] 38)) (.slice (some ⟨w2.heap.size, 0, none⟩) 1 1) outs ∧ Below W.heap.size W ((w2.setCell ⟨W.heap.size, 0, none⟩ (.slice a1 l1 c1)).alloc (Obj.cells #[Value.func (.func 67) #[] #[.pointer (some ⟨W.heap.size, 0, none⟩)]] 38)) := by
    rintro w2 a1 l1 c1 ⟨len', cap', rows', m1, m2, m3⟩ hT hb
    have hsz : (w2.setCell ⟨W.heap.size, 0, none⟩ (.slice a1 l1 c1)).heap.size = w2.heap.size := setCell_size _ _ _
    have hlt := (Array.getElem?_eq_some_iff.1 hT).1
    obtain ⟨outs, hg⟩ := gave_cell (T := 70) (E := 38) (n := limO) (B := W.heap.size) (see_f67 limO) (fun _ _ => rfl) (Nat.le_refl _) (setCell_one (u := .slice a1 l1 c1) hT) (c := .sl 1 len' cap' rows') (t := .sl 3)
      (Rd.mono (fun k hk => by
        obtain ⟨g1, g2, cc, e, g3⟩ := hk
        have hk : (w2.setCell ⟨W.heap.size, 0, none⟩ (.slice a1 l1 c1)).heap[k]? = w2.heap[k]? := Below.heap_setCell _ _ _ _ (by show k ≠ W.heap.size; omega)
        exact ⟨⟨by omega, by rw [hsz]; exact g2, cc, e, hk.trans g3⟩, hk⟩) _ _ m1)
      (by simp only [Ht]; exact ⟨3, rfl, rfl, m2⟩) (by simp only [nodes, limO]; omega) (by simp only [nodes, limO]; omega)
    rw [hsz] at hg
    exact ⟨outs, hg, (hb.setCell (Nat.le_refl _) _).alloc (by rw [hsz]; exact hb.size) _⟩
  have finB : ∀ w2 a1 l1 c1, NewInts W.heap.size 300 w2 (.slice a1 l1 c1) → Below W.heap.size W w2 → ∃ outs, Gave Tryz.prog 3 9 tab limO W.heap.size ((w2.alloc (Obj.cells #[.slice a1 l1 c1] 70)).alloc (Obj.cells #[Value.func (.func 67) #[] #[.pointer (some ⟨w2.heap.size, 0, none⟩)]] 38)) (.slice (some ⟨w2.heap.size + 1, 0, none⟩) 1 1) outs ∧ Below W.heap.size W ((w2.alloc (Obj.cells #[.slice a1 l1 c1] 70)).alloc (Obj.cells #[Value.func (.func 67) #[] #[.pointer (some ⟨w2.heap.size, 0, none⟩)]] 38)) := by
    rintro w2 a1 l1 c1 ⟨len', cap', rows', m1, m2, m3⟩ hb
    obtain ⟨outs, hg⟩ := gave_cell (T := 70) (E := 38) (n := limO) (B := W.heap.size) (see_f67 limO) (fun _ _ => rfl) hb.size (heap_alloc_new w2 (Obj.cells #[.slice a1 l1 c1] 70)) (c := .sl 1 len' cap' rows') (t := .sl 3)
      (Rd.mono (fun k hk => nw_below ((Below.refl _ _).alloc (Nat.le_refl _) _) hk) _ _ m1)
      (by simp only [Ht]; exact ⟨3, rfl, rfl, m2⟩) (by simp only [nodes, limO]; omega) (by simp only [nodes, limO]; omega)
    rw [alloc_size] at hg
    exact ⟨outs, hg, (hb.alloc hb.size _).alloc (by rw [alloc_size]; have := hb.size; omega) _⟩
  have HC := Lib.hid hc
  have FA := Lib.hid finA
  have FB := Lib.hid finB
  clear hc h1 h2 hr ht hn finA finB
  go_enter Tryz.func65, Tryz.ntmps65
  go_wp2_with fail
  go_region_with (first
    | (go_at_call 66; refine (HC.out (W.heap.size + 1) _ ?_ ?_).mono ?_; (show W.heap.size + 1 ≤ (W.alloc (Obj.cells #[.slice none 0 0] 70)).heap.size; rw [alloc_size]; exact Nat.le_refl _); (repeat (first | exact Below.refl _ _ | refine below_drew ?_ | refine below_drewN ?_ _ | refine below_alloc _ ?_ (by simp))); rintro e w2 ⟨a1, l1, c1, n, rfl, hv, hb2, hbW⟩; have hT2 : w2.heap[W.heap.size]? = some (Obj.cells #[.slice none 0 0] 70) := (hb2.block _ (by show W.heap.size < (W.alloc (Obj.cells #[.slice none 0 0] 70)).heap.size; rw [alloc_size]; exact Nat.lt_succ_self _)).trans (heap_alloc_new W _); have vt : w2.cell? ⟨W.heap.size, 0, none⟩ = some (.slice none 0 0) := cell_of_row _ _ 0 _ _ _ hT2; have vf : w2.frozen? ⟨W.heap.size, 0, none⟩ = false := (by simp [World.frozen?, hT2]))
    | (go_at_call 66; refine (HC.out W.heap.size _ ?_ ?_).mono ?_; exact Nat.le_refl _; (repeat (first | exact Below.refl _ _ | refine below_drew ?_ | refine below_drewN ?_ _ | refine below_alloc _ ?_ (by simp))); rintro e w2 ⟨a1, l1, c1, n, rfl, hv, hb2, hbW⟩))
  all_goals go_wp2_with fail
  all_goals go_ret
  all_goals first
    | (obtain ⟨outs, hg, hB⟩ := FA.out w2 a1 l1 c1 hv hT2 hbW; exact ⟨_, outs, rfl, hg, hB⟩)
    | (obtain ⟨outs, hg, hB⟩ := FB.out w2 a1 l1 c1 hv hbW; exact ⟨_, outs, rfl, hg, hB⟩)
end Go.Proofs.YtomnkglnbmnmpaaGreatDoor
