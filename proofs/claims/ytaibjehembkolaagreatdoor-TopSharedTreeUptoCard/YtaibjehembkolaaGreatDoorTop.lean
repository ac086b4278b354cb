/- The law's function returns true for each argument of up to 2^30 values of data. -/
import Derived.Test.YtaibjehembkolaaGreatDoorRun
import Derived.Test.YtaibjehembkolaaGreatDoorCallAdd
import Derived.Test.YtaibjehembkolaaGreatDoorApart
import Derived.Test.YtaibjehembkolaaGreatDoorOwnAny
import Derived.WalkKit
import Derived.WalkSpells
import Derived.WalkLawsBesides
namespace Go.Proofs.YtaibjehembkolaaGreatDoor
open Go.RowKit Go.Proofs
open Go.Vt
set_option maxRecDepth 100000 in
/-- The console answers the one word it is asked. -/
theorem alive_ok (w : World) : Calls Tryz.prog 22 #[] w fun e w' => e = .returned (.bool true) ∧ Below w.heap.size w w' := by
  have hc := run_ok w
  have HC := Lib.hid hc
  clear hc
  go_enter Tryz.func22, Tryz.ntmps22
  go_wp2_with fail
  refine HC.out.mono ?_
  rintro e w1 ⟨rfl, hb⟩
  go_wp2_with fail
  go_ret
  exact ⟨rfl, hb⟩
theorem vals_at {F : Nat → Prop} {w : World} {vs : List Value} {cs : List C} (ht : HtRow tab [.str, .sl 66, .int .i64, .int .i64] cs) (hr : RdVals F w cs vs) : ∃ s0 a1 l1 k1 n2 n3, vs = [.string s0, .slice a1 l1 k1, .int .i64 n2, .int .i64 n3] := by
  obtain ⟨c0, cs0, rfl, a0, ht1⟩ := ht.cons
  obtain ⟨v0, vs0, rfl, b0, hr1⟩ := hr.cons
  obtain ⟨c1, cs1, rfl, a1, ht2⟩ := ht1.cons
  obtain ⟨v1, vs1, rfl, b1, hr2⟩ := hr1.cons
  obtain ⟨c2, cs2, rfl, a2, ht3⟩ := ht2.cons
  obtain ⟨v2, vs2, rfl, b2, hr3⟩ := hr2.cons
  obtain ⟨c3, cs3, rfl, a3, ht4⟩ := ht3.cons
  obtain ⟨v3, vs3, rfl, b3, hr4⟩ := hr3.cons
  obtain rfl := ht4.nil
  obtain rfl := hr4.nil
  obtain ⟨s0, rfl⟩ := a0.strf b0
  obtain ⟨x1, l1, k1, rfl⟩ := a1.slf b1
  obtain ⟨n2, rfl⟩ := a2.intf b2
  obtain ⟨n3, rfl⟩ := a3.intf b3
  exact ⟨s0, x1, l1, k1, n2, n3, rfl⟩
set_option maxRecDepth 100000 in
set_option maxHeartbeats 1000000 in
/-- The law's function returns true, whatever the tree, up to 2^30 values of data. -/
theorem top_is (F : Nat → Prop) (w : World) (vs : List Value) (cs : List C) (hn : nodesRow cs ≤ 1073741824) (ht : HtRow tab [.str, .sl 66, .int .i64, .int .i64] cs) (hr : RdVals F w cs vs) (hF : ∀ k, F k → k < w.heap.size) :
    Calls Tryz.prog 3 #[.agg vs.toArray] w fun e w' => e = .returned (.bool true) ∧ Below w.heap.size w w' := by
  obtain ⟨s0, a1, l1, k1, n2, n3, rfl⟩ := vals_at ht hr
  obtain ⟨W1, hW1⟩ : ∃ W1, W1 = w.alloc (Obj.cells #[.string s0, .slice a1 l1 k1, .int .i64 n2, .int .i64 n3] 26) := ⟨_, rfl⟩
  obtain ⟨W, hW⟩ : ∃ W, W = W1.alloc (Obj.cells #[.func (.func 7) #[] #[], .func (.func 11) #[] #[], .func (.func 13) #[] #[], .func (.func 16) #[] #[], .func (.func 18) #[] #[], .func (.func 20) #[] #[]] 39) := ⟨_, rfl⟩
  have s1 : W1.heap.size = w.heap.size + 1 := by rw [hW1, alloc_size]
  have sW : W.heap.size = w.heap.size + 2 := by rw [hW, alloc_size, s1]
  have hb : Below w.heap.size w W := by rw [hW, hW1]; exact ((Below.refl _ _).alloc (Nat.le_refl _) _).alloc (by rw [alloc_size]; omega) _
  have y : W.heap[w.heap.size + 1]? = some (.cells #[.func (.func 7) #[] #[], .func (.func 11) #[] #[], .func (.func 13) #[] #[], .func (.func 16) #[] #[], .func (.func 18) #[] #[], .func (.func 20) #[] #[]] 39 (0, 0)) := by rw [hW]; have := heap_alloc_new W1 (Obj.cells #[.func (.func 7) #[] #[], .func (.func 11) #[] #[], .func (.func 13) #[] #[], .func (.func 16) #[] #[], .func (.func 18) #[] #[], .func (.func 20) #[] #[]] 39); rwa [s1] at this
  have hc := apart_is see_seeSharedTree own_ownSharedTree F W _ cs (.slice (some ⟨w.heap.size + 1, 0, none⟩) 6 6) [7, 11, 13, 16, 18, 20] hn ht (RdVals.mono (fun k hk => ⟨hk, hb.block k (hF k hk)⟩) _ _ hr) (fun k hk => Nat.lt_of_lt_of_le (hF k hk) hb.size)
    ⟨some ⟨w.heap.size + 1, 0, none⟩, 6, w.heap.size + 1, rfl, fun _ => ⟨rfl, by omega⟩, fun j u hu => by rw [cell_of_row _ _ j _ _ _ y]; simpa using hu⟩ (by decide) (by
      intro f hf
      simp only [List.mem_cons, List.not_mem_nil, or_false] at hf
      rcases hf with rfl | rfl | rfl | rfl | rfl | rfl
      · exact ⟨call_new, fun _ _ => rfl⟩
      · exact ⟨call_check limO, fun _ _ => rfl⟩
      · exact ⟨call_add, fun _ _ => rfl⟩
      · exact ⟨call_top limO, fun _ _ => rfl⟩
      · exact ⟨call_below limO, fun _ _ => rfl⟩
      · exact ⟨call_depth limO, fun _ _ => rfl⟩)
  have HC := Lib.hid hc
  have HW := Lib.hid hW
  have HW1 := Lib.hid hW1
  have HB := Lib.hid hb
  clear hc hW hW1 hb y sW s1 hr ht hn hF
  go_enter Tryz.func3, Tryz.ntmps3
  go_wp2_with fail
  rw [← HW1.out, ← HW.out]
  refine HC.out.mono ?_
  rintro e w1 ⟨rfl, hb1⟩
  go_wp2_with fail
  refine (alive_ok w1).mono ?_
  rintro e w2 ⟨rfl, hb2⟩
  go_wp2_with fail
  go_ret
  have hb3 := HB.out.trans (hb1.mono HB.out.size)
  exact ⟨rfl, hb3.trans (hb2.mono hb3.size)⟩
end Go.Proofs.YtaibjehembkolaaGreatDoor
