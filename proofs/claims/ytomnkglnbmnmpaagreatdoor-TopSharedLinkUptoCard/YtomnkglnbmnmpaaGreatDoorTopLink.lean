/- The law's function returns true for each argument of up to 2^30 values of data. -/
import Derived.Test.YtomnkglnbmnmpaaGreatDoorCallLink
import Derived.Test.YtomnkglnbmnmpaaGreatDoorCallLinks
import Derived.Test.YtomnkglnbmnmpaaGreatDoorRun
import Derived.Test.YtomnkglnbmnmpaaGreatDoorApartSharedLink
import Derived.Test.YtomnkglnbmnmpaaGreatDoorOwnAny
import Derived.WalkKit
import Derived.WalkSpells
import Derived.WalkLawsBesides
namespace Go.Proofs.YtomnkglnbmnmpaaGreatDoor
open Go.RowKit Go.Vt Go.Proofs
theorem vals_at_Link {F : Nat → Prop} {w : World} {vs : List Value} {cs : List C} (ht : HtRow tab [.sl 107, .int .i64] cs) (hr : RdVals F w cs vs) : ∃ a1 l1 k1 n1, vs = [.slice a1 l1 k1, .int .i64 n1] := by
  obtain ⟨c0, cs0, rfl, a0x, ht1⟩ := ht.cons
  obtain ⟨v0, vs0, rfl, b0, hr1⟩ := hr.cons
  obtain ⟨c1, cs1, rfl, a1x, ht2⟩ := ht1.cons
  obtain ⟨v1, vs1, rfl, b1, hr2⟩ := hr1.cons
  obtain rfl := ht2.nil
  obtain rfl := hr2.nil
  obtain ⟨x1, l1, k1, rfl⟩ := a0x.slf b0
  obtain ⟨n1, rfl⟩ := a1x.intf b1
  exact ⟨x1, l1, k1, n1, rfl⟩
set_option maxRecDepth 100000 in
set_option maxHeartbeats 1000000 in
/-- The law's function returns true, whatever the tree, up to 2^30 values of data. -/
theorem top_is_Link (F : Nat → Prop) (w : World) (vs : List Value) (cs : List C) (hn : nodesRow cs ≤ 1073741824) (ht : HtRow tab [.sl 107, .int .i64] cs) (hr : RdVals F w cs vs) (hF : ∀ k, F k → k < w.heap.size) :
    Calls Tryz.prog 6 #[.agg vs.toArray] w fun e w' => e = .returned (.bool true) ∧ Below w.heap.size w w' := by
  obtain ⟨a1, l1, k1, n1, rfl⟩ := vals_at_Link ht hr
  obtain ⟨W1, hW1⟩ : ∃ W1, W1 = w.alloc (Obj.cells #[.slice a1 l1 k1, .int .i64 n1] 82) := ⟨_, rfl⟩
  obtain ⟨W, hW⟩ : ∃ W, W = W1.alloc (Obj.cells #[.func (.func 59) #[] #[], .func (.func 61) #[] #[], .func (.func 63) #[] #[], .func (.func 65) #[] #[]] 88) := ⟨_, rfl⟩
  have s1 : W1.heap.size = w.heap.size + 1 := by rw [hW1, alloc_size]
  have sW : W.heap.size = w.heap.size + 2 := by rw [hW, alloc_size, s1]
  have hb : Below w.heap.size w W := by rw [hW, hW1]; exact ((Below.refl _ _).alloc (Nat.le_refl _) _).alloc (by rw [alloc_size]; omega) _
  have y : W.heap[w.heap.size + 1]? = some (.cells #[.func (.func 59) #[] #[], .func (.func 61) #[] #[], .func (.func 63) #[] #[], .func (.func 65) #[] #[]] 88 (0, 0)) := by rw [hW]; have := heap_alloc_new W1 (Obj.cells #[.func (.func 59) #[] #[], .func (.func 61) #[] #[], .func (.func 63) #[] #[], .func (.func 65) #[] #[]] 88); rwa [s1] at this
  have hc := apart_is_SharedLink see_seeSharedLink own_ownSharedLink F W _ cs (.slice (some ⟨w.heap.size + 1, 0, none⟩) 4 4) [59, 61, 63, 65] hn ht (RdVals.mono (fun k hk => ⟨hk, hb.block k (hF k hk)⟩) _ _ hr) (fun k hk => Nat.lt_of_lt_of_le (hF k hk) hb.size)
    ⟨some ⟨w.heap.size + 1, 0, none⟩, 4, w.heap.size + 1, rfl, fun _ => ⟨rfl, by omega⟩, fun j u hu => by rw [cell_of_row _ _ j _ _ _ y]; simpa using hu⟩ (by decide) (by
      intro f hf
      simp only [List.mem_cons, List.not_mem_nil, or_false] at hf
      rcases hf with rfl | rfl | rfl | rfl
      · exact ⟨call_lis _, fun _ _ => rfl⟩
      · exact ⟨call_href _, fun _ _ => rfl⟩
      · exact ⟨call_relevant _, fun _ _ => rfl⟩
      · exact ⟨call_lall, fun _ _ => rfl⟩)
  have HC := Lib.hid hc
  have HW := Lib.hid hW
  have HW1 := Lib.hid hW1
  have HB := Lib.hid hb
  clear hc hW hW1 hb y sW s1 hr ht hn hF
  go_enter Tryz.func6, Tryz.ntmps6
  go_wp2_with fail
  rw [← HW1.out, ← HW.out]
  refine HC.out.mono ?_
  rintro e w1 ⟨rfl, hb1⟩
  go_wp2_with fail
  refine (alive_ok w1).mono ?_
  rintro e w2 ⟨rfl, hb2⟩
  go_wp2_with fail
  go_ret
  have hb3 := HB.out.trans (hb1.mono HB.out.size)
  exact ⟨rfl, hb3.trans (hb2.mono hb3.size)⟩
end Go.Proofs.YtomnkglnbmnmpaaGreatDoor
