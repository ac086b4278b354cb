/- The sixth call of the law fulfils its contract. -/
import Derived.Test.YtaibjehembkolaaGreatDoorAdd
import Derived.Test.YtaibjehembkolaaGreatDoorCalls
import Derived.WalkKit
import Derived.WalkSpells
import Derived.WalkLawsBesides
import Derived.Deep.RegionWith
import Derived.RegionTactic
namespace Go.Proofs.YtaibjehembkolaaGreatDoor
open Go.RowKit Go.Proofs
open Go.Vt
/-- One closure over a cell in new memory. -/
theorem gave_cell {n B T E f p : Nat} {t : CT} {c : C} {v : Value} {W : World} (hs : SeeOK Tryz.prog 3 9 tab n f [t]) (he : ∀ args w, (callFunc f args).run Tryz.prog w = .ok (.enter f args) w) (hB : B ≤ p) (hp : W.heap[p]? = some (.cells #[v] T (0, 0))) (hr : Rd (Nw B W) W c v) (ht : Ht tab t c) (hn : nodes c ≤ n) (hl : nodes c ≤ limO) :
    ∃ outs, Gave Tryz.prog 3 9 tab n B (W.alloc (Obj.cells #[Value.func (.func f) #[] #[.pointer (some ⟨p, 0, none⟩)]] E)) (.slice (some ⟨W.heap.size, 0, none⟩) 1 1) outs := by
  have hlt := (Array.getElem?_eq_some_iff.1 hp).1
  obtain ⟨W2, hW2⟩ : ∃ W2, W2 = W.alloc (Obj.cells #[Value.func (.func f) #[] #[.pointer (some ⟨p, 0, none⟩)]] E) := ⟨_, rfl⟩
  have s2 : W2.heap.size = W.heap.size + 1 := by rw [hW2, alloc_size]
  have b2 : Below W.heap.size W W2 := by rw [hW2]; exact (Below.refl _ _).alloc (Nat.le_refl _) _
  have x2 : W2.heap[p]? = some (.cells #[v] T (0, 0)) := (b2.block _ hlt).trans hp
  have y2 : W2.heap[W.heap.size]? = some (.cells #[Value.func (.func f) #[] #[.pointer (some ⟨p, 0, none⟩)]] E (0, 0)) := by rw [hW2]; exact heap_alloc_new W _
  rw [← hW2]
  refine ⟨[⟨f, p, [t], [c], fun k => B ≤ k ∧ k < W.heap.size ∧ ∃ c e, W2.heap[k]? = some (.cells c e (0, 0))⟩], by simp, fun o ho => ?_, fun i j oi oj hij hi hj => ?_, some ⟨W.heap.size, 0, none⟩, 1, W.heap.size, rfl, fun _ => ⟨rfl, by omega, by omega⟩, fun o ho => ?_, fun j o hj => ?_⟩
  · obtain rfl := List.mem_singleton.1 ho
    refine ⟨hs, he, by simp only [HtRow]; exact ⟨ht, trivial⟩, ?_, ⟨hB, hlt, _, _, x2⟩, fun k hk => ⟨hk.1, by have := hk.2.1; omega, hk.2.2⟩, by simpa [nodesRow] using hn, by simpa [nodesRow] using hl⟩
    simp only [RdRow, and_true]
    refine ⟨v, cell_of_row _ _ 0 _ _ _ x2, Rd.mono (fun k hk => ?_) _ _ hr⟩
    obtain ⟨g1, g2, cc, e, g3⟩ := hk
    have := b2.block k g2
    exact ⟨⟨g1, g2, cc, e, this.trans g3⟩, this⟩
  · have h1 := (List.getElem?_eq_some_iff.1 hi).1
    have h2 := (List.getElem?_eq_some_iff.1 hj).1
    simp only [List.length_cons, List.length_nil] at h1 h2
    omega
  · obtain rfl := List.mem_singleton.1 ho
    intro h; have := h.2.1; omega
  · cases j with
    | zero => simp at hj; subst hj; exact cell_of_row _ _ 0 _ _ _ y2
    | succ j => simp at hj
set_option maxRecDepth 100000 in
set_option maxHeartbeats 4000000 in
theorem call_add : CallOK Tryz.prog 3 9 tab limO 13 [.str, .sl 66, .int .i64, .int .i64] := by
  intro F W b cs hn ht hr hb hF
  obtain ⟨tag, a, len, cap, rows, i, j, rfl, htag, h1, h2, q0, q1, q2, q3⟩ := y_at ht hr
  have hnn : nodesRows rows ≤ 500000000000 := by
    simp only [nodesRow, nodes, limY] at hn; omega
  have hbl : b < W.heap.size := hF b hb
  have hc : ∀ B W', B ≤ W'.heap.size → Below W.heap.size W W' → Calls Tryz.prog 14 #[.agg #[.slice a len cap], .string tag] W' fun e w' => ∃ a1 l1 c1 n k, e = .returned (.tuple #[.agg #[.slice a1 l1 c1], n, k]) ∧ NewTree B (nodesRows rows + 100) w' (.slice a1 l1 c1) ∧ Below W'.heap.size W' w' ∧ Below W.heap.size W w' := by
    intro B W' hB hW
    refine (add_ok F W' a len cap rows tag (Rd.mono (fun k hk => ⟨hk, hW.block k (hF k hk)⟩) _ _ h1) h2 (fun k hk => Nat.lt_of_lt_of_le (hF k hk) hW.size) (by omega) htag).mono ?_
    rintro e w' ⟨⟨v, n, k, rfl, len', cap', rows', m1, m2, m3⟩, hb⟩
    have m0 := m1
    simp only [Rd] at m0
    obtain ⟨a1, rfl, _⟩ := m0
    exact ⟨a1, len', cap', n, k, rfl, ⟨len', cap', rows', Rd.mono (Nw.lower hB) _ _ m1, m2, by omega⟩, hb, hW.trans (hb.mono hW.size)⟩
  have finA : ∀ w2 a1 l1 c1, NewTree (W.heap.size + 1) (nodesRows rows + 100) w2 (.slice a1 l1 c1) → w2.heap[W.heap.size]? = some (.cells #[.slice none 0 0] 24 (0, 0)) → Below W.heap.size W w2 → ∃ outs, Gave Tryz.prog 3 9 tab limO W.heap.size ((w2.setCell ⟨W.heap.size, 0, none⟩ (.slice a1 l1 c1)).alloc (Obj.cells #[Value.func (.func 15) #[] #[.pointer (some ⟨W.heap.size, 0, none⟩)]] 38)) (.slice (some ⟨w2.heap.size, 0, none⟩) 1 1) outs ∧ Below W.heap.size W ((w2.setCell ⟨W.heap.size, 0, none⟩ (.slice a1 l1 c1)).alloc (Obj.cells #[Value.func (.func 15) #[] #[.pointer (some ⟨W.heap.size, 0, none⟩)]] 38)) := by
    rintro w2 a1 l1 c1 ⟨len', cap', rows', m1, m2, m3⟩ hT hb
    have hsz : (w2.setCell ⟨W.heap.size, 0, none⟩ (.slice a1 l1 c1)).heap.size = w2.heap.size := setCell_size _ _ _
    obtain ⟨outs, hg⟩ := gave_cell (T := 24) (E := 38) (n := limO) (B := W.heap.size) (see_f15 limO) (fun _ _ => rfl) (Nat.le_refl _) (setCell_one (u := .slice a1 l1 c1) hT) (c := .sl 4 len' cap' rows') (t := .sl 66)
      (Rd.mono (fun k hk => by
        obtain ⟨g1, g2, cc, e, g3⟩ := hk
        have hk : (w2.setCell ⟨W.heap.size, 0, none⟩ (.slice a1 l1 c1)).heap[k]? = w2.heap[k]? := Below.heap_setCell _ _ _ _ (by show k ≠ W.heap.size; omega)
        exact ⟨⟨by omega, by rw [hsz]; exact g2, cc, e, hk.trans g3⟩, hk⟩) _ _ m1)
      (by simp only [Ht]; exact ⟨66, rfl, rfl, m2⟩) (by simp only [nodes, limO]; omega) (by simp only [nodes, limO]; omega)
    rw [hsz] at hg
    exact ⟨outs, hg, (hb.setCell (Nat.le_refl _) _).alloc (by rw [hsz]; exact hb.size) _⟩
  have finB : ∀ w2 a1 l1 c1, NewTree W.heap.size (nodesRows rows + 100) w2 (.slice a1 l1 c1) → Below W.heap.size W w2 → ∃ outs, Gave Tryz.prog 3 9 tab limO W.heap.size ((w2.alloc (Obj.cells #[.slice a1 l1 c1] 24)).alloc (Obj.cells #[Value.func (.func 15) #[] #[.pointer (some ⟨w2.heap.size, 0, none⟩)]] 38)) (.slice (some ⟨w2.heap.size + 1, 0, none⟩) 1 1) outs ∧ Below W.heap.size W ((w2.alloc (Obj.cells #[.slice a1 l1 c1] 24)).alloc (Obj.cells #[Value.func (.func 15) #[] #[.pointer (some ⟨w2.heap.size, 0, none⟩)]] 38)) := by
    rintro w2 a1 l1 c1 ⟨len', cap', rows', m1, m2, m3⟩ hb
    obtain ⟨outs, hg⟩ := gave_cell (T := 24) (E := 38) (n := limO) (B := W.heap.size) (see_f15 limO) (fun _ _ => rfl) hb.size (heap_alloc_new w2 (Obj.cells #[.slice a1 l1 c1] 24)) (c := .sl 4 len' cap' rows') (t := .sl 66)
      (Rd.mono (fun k hk => nw_below ((Below.refl _ _).alloc (Nat.le_refl _) _) hk) _ _ m1)
      (by simp only [Ht]; exact ⟨66, rfl, rfl, m2⟩) (by simp only [nodes, limO]; omega) (by simp only [nodes, limO]; omega)
    rw [alloc_size] at hg
    exact ⟨outs, hg, (hb.alloc hb.size _).alloc (by rw [alloc_size]; have := hb.size; omega) _⟩
  have HC := Lib.hid hc
  have FA := Lib.hid finA
  have FB := Lib.hid finB
  clear hc h1 h2 hr ht hn finA finB
  go_enter Tryz.func13, Tryz.ntmps13
  go_wp2_with fail
  go_region_with (first
    | (go_at_call 14; refine (HC.out (W.heap.size + 1) _ ?_ ?_).mono ?_; (show W.heap.size + 1 ≤ (W.alloc (Obj.cells #[.slice none 0 0] 24)).heap.size; rw [alloc_size]; exact Nat.le_refl _); (repeat (first | exact Below.refl _ _ | refine below_drew ?_ | refine below_drewN ?_ _ | refine below_alloc _ ?_ (by simp))); rintro e w2 ⟨a1, l1, c1, n, k, rfl, hv, hb2, hbW⟩; have hT2 : w2.heap[W.heap.size]? = some (Obj.cells #[.slice none 0 0] 24) := (hb2.block _ (by show W.heap.size < (W.alloc (Obj.cells #[.slice none 0 0] 24)).heap.size; rw [alloc_size]; exact Nat.lt_succ_self _)).trans (heap_alloc_new W _); have vt : w2.cell? ⟨W.heap.size, 0, none⟩ = some (.slice none 0 0) := cell_of_row _ _ 0 _ _ _ hT2; have vf : w2.frozen? ⟨W.heap.size, 0, none⟩ = false := (by simp [World.frozen?, hT2]))
    | (go_at_call 14; refine (HC.out W.heap.size _ ?_ ?_).mono ?_; exact Nat.le_refl _; (repeat (first | exact Below.refl _ _ | refine below_drew ?_ | refine below_drewN ?_ _ | refine below_alloc _ ?_ (by simp))); rintro e w2 ⟨a1, l1, c1, n, k, rfl, hv, hb2, hbW⟩))
  all_goals go_wp2_with fail
  all_goals go_ret
  all_goals first
    | (obtain ⟨outs, hg, hB⟩ := FA.out w2 a1 l1 c1 hv hT2 hbW; exact ⟨_, outs, rfl, hg, hB⟩)
    | (obtain ⟨outs, hg, hB⟩ := FB.out w2 a1 l1 c1 hv hbW; exact ⟨_, outs, rfl, hg, hB⟩)
end Go.Proofs.YtaibjehembkolaaGreatDoor
