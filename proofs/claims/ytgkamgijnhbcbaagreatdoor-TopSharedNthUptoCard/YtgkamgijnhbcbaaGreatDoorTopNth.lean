/- The law's function returns true for each argument of up to 2^30 values of data none of which is frozen. -/
import Derived.Test.YtgkamgijnhbcbaaGreatDoorCallNth
import Derived.Test.YtgkamgijnhbcbaaGreatDoorRun
import Derived.Test.YtgkamgijnhbcbaaGreatDoorApartSharedNth
import Derived.Test.YtgkamgijnhbcbaaGreatDoorOwnAny
import Derived.WalkKit
import Derived.WalkSpells
import Derived.WalkLawsBesides
namespace Go.Proofs.YtgkamgijnhbcbaaGreatDoor
open Go.RowKit Go.Vt Go.Proofs
theorem vals_at_Nth {F : Nat → Prop} {w : World} {vs : List Value} {cs : List C} (ht : HtRow tab [.sl 132, .int .i64, .bool, .sl 4, .int .i64, .int .i64] cs) (hr : RdVals F w cs vs) : ∃ a1 l1 k1 n1 b2 a3 l3 k3 n4 n5, vs = [.slice a1 l1 k1, .int .i64 n1, .bool b2, .slice a3 l3 k3, .int .i64 n4, .int .i64 n5] := by
  obtain ⟨c0, cs0, rfl, a0x, ht1⟩ := ht.cons
  obtain ⟨v0, vs0, rfl, b0, hr1⟩ := hr.cons
  obtain ⟨c1, cs1, rfl, a1x, ht2⟩ := ht1.cons
  obtain ⟨v1, vs1, rfl, b1, hr2⟩ := hr1.cons
  obtain ⟨c2, cs2, rfl, a2x, ht3⟩ := ht2.cons
  obtain ⟨v2, vs2, rfl, b2, hr3⟩ := hr2.cons
  obtain ⟨c3, cs3, rfl, a3x, ht4⟩ := ht3.cons
  obtain ⟨v3, vs3, rfl, b3, hr4⟩ := hr3.cons
  obtain ⟨c4, cs4, rfl, a4x, ht5⟩ := ht4.cons
  obtain ⟨v4, vs4, rfl, b4, hr5⟩ := hr4.cons
  obtain ⟨c5, cs5, rfl, a5x, ht6⟩ := ht5.cons
  obtain ⟨v5, vs5, rfl, b5, hr6⟩ := hr5.cons
  obtain rfl := ht6.nil
  obtain rfl := hr6.nil
  obtain ⟨x0, l0, k0, rfl⟩ := a0x.slf b0
  obtain ⟨n1, rfl⟩ := a1x.intf b1
  obtain ⟨q2, rfl⟩ := ht_bool a2x
  simp only [Rd] at b2
  subst b2
  obtain ⟨x3, l3, k3, rfl⟩ := a3x.slf b3
  obtain ⟨n4, rfl⟩ := a4x.intf b4
  obtain ⟨n5, rfl⟩ := a5x.intf b5
  exact ⟨x0, l0, k0, n1, q2, x3, l3, k3, n4, n5, rfl⟩
set_option maxRecDepth 100000 in
set_option maxHeartbeats 1000000 in
/-- The law's function returns true, whatever the tree, up to 2^30 values of data. -/
theorem top_is_Nth (F : Nat → Prop) (w : World) (vs : List Value) (cs : List C) (hn : nodesRow cs ≤ 1073741824) (ht : HtRow tab [.sl 132, .int .i64, .bool, .sl 4, .int .i64, .int .i64] cs) (hr : RdVals F w cs vs) (hf : RfVals w cs vs) (hF : ∀ k, F k → k < w.heap.size) :
    Calls Tryz.prog 4 #[.agg vs.toArray] w fun e w' => e = .returned (.bool true) ∧ Below w.heap.size w w' := by
  obtain ⟨a1, l1, k1, n1, b2, a3, l3, k3, n4, n5, rfl⟩ := vals_at_Nth ht hr
  obtain ⟨W1, hW1⟩ : ∃ W1, W1 = w.alloc (Obj.cells #[.slice a1 l1 k1, .int .i64 n1, .bool b2, .slice a3 l3 k3, .int .i64 n4, .int .i64 n5] 56) := ⟨_, rfl⟩
  obtain ⟨W, hW⟩ : ∃ W, W = W1.alloc (Obj.cells #[.func (.func 23) #[] #[], .func (.func 25) #[] #[], .func (.func 27) #[] #[]] 63) := ⟨_, rfl⟩
  have s1 : W1.heap.size = w.heap.size + 1 := by rw [hW1, alloc_size]
  have sW : W.heap.size = w.heap.size + 2 := by rw [hW, alloc_size, s1]
  have hb : Below w.heap.size w W := by rw [hW, hW1]; exact ((Below.refl _ _).alloc (Nat.le_refl _) _).alloc (by rw [alloc_size]; omega) _
  have y : W.heap[w.heap.size + 1]? = some (.cells #[.func (.func 23) #[] #[], .func (.func 25) #[] #[], .func (.func 27) #[] #[]] 63 (0, 0)) := by rw [hW]; have := heap_alloc_new W1 (Obj.cells #[.func (.func 23) #[] #[], .func (.func 25) #[] #[], .func (.func 27) #[] #[]] 63); rwa [s1] at this
  have hc := apart_is_SharedNth see_seeSharedNth own_ownSharedNth F W _ cs (.slice (some ⟨w.heap.size + 1, 0, none⟩) 3 3) [23, 25, 27] hn ht (RdVals.mono (fun k hk => ⟨hk, hb.block k (hF k hk)⟩) _ _ hr) (RfVals.mono (F := F) (fun k hk => hb.block k (hF k hk)) _ _ hr hf) (fun k hk => Nat.lt_of_lt_of_le (hF k hk) hb.size)
    ⟨some ⟨w.heap.size + 1, 0, none⟩, 3, w.heap.size + 1, rfl, fun _ => ⟨rfl, by omega⟩, fun j u hu => by rw [cell_of_row _ _ j _ _ _ y]; simpa using hu⟩ (by decide) (by
      intro f hf
      simp only [List.mem_cons, List.not_mem_nil, or_false] at hf
      rcases hf with rfl | rfl | rfl
      · exact ⟨call_nthplace _, fun _ _ => rfl⟩
      · exact ⟨call_nthmatch _, fun _ _ => rfl⟩
      · exact ⟨call_nthall, fun _ _ => rfl⟩)
  have HC := Lib.hid hc
  have HW := Lib.hid hW
  have HW1 := Lib.hid hW1
  have HB := Lib.hid hb
  clear hc hW hW1 hb y sW s1 hr hf ht hn hF
  go_enter Tryz.func4, Tryz.ntmps4
  go_wp2_with fail
  rw [← HW1.out, ← HW.out]
  refine HC.out.mono ?_
  rintro e w1 ⟨rfl, hb1⟩
  go_wp2_with fail
  refine (alive_ok w1).mono ?_
  rintro e w2 ⟨rfl, hb2⟩
  go_wp2_with fail
  go_ret
  have hb3 := HB.out.trans (hb1.mono HB.out.size)
  exact ⟨rfl, hb3.trans (hb2.mono hb3.size)⟩
end Go.Proofs.YtgkamgijnhbcbaaGreatDoor
