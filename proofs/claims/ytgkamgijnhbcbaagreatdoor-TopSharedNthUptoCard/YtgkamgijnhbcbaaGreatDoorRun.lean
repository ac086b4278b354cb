/- console.Run at one line. -/
import Derived.Test.YtgkamgijnhbcbaaGreatDoorBuilder
import Derived.WalkKit
import Derived.WalkSpells
import Derived.WalkLawsBesides
import Derived.Lib.Builder
import Derived.Shelf.Strings.Builder2
import Derived.Test.YtgkamgijnhbcbaaGreatDoorOrders
import Derived.Test.YtgkamgijnhbcbaaGreatDoorForms
import Derived.RangeFuncNested
import Derived.RangeFuncBound
import Derived.RangeFuncCalls
import Derived.RangeFuncLeaves
import Derived.OwnWalkIn
import Derived.TacticsInMore
import Derived.LoopNIn
import Derived.LoopIn
import Derived.BigRegionIn
import Derived.Stop.RegionWithIn
namespace Go.Proofs.YtgkamgijnhbcbaaGreatDoor
open Go.RowKit Go.Proofs
set_option maxHeartbeats 2000000 in
set_option maxRecDepth 1000000 in
theorem B_String_at (B b : Nat) (l : List UInt8) (w : World) (h : Lib.IsBuilder 156 5 B b (Lib.byteCells l) w) (h0 : l ≠ []) :
    Calls Tryz.prog 92 #[.pointer (some ⟨b, 0, none⟩)] w fun e w' => e = .returned (.string ⟨l.toArray⟩) ∧ ∃ g n, (∃ p c, w.heap[b]? = some (.cells #[p, .slice (some ⟨g, 0, none⟩) n c] 156 (0, 0))) ∧ w' = w.drew.freeze ⟨g, 0, none⟩ n := by
  obtain ⟨p, hB, v, hbk, hown, hne⟩ : ∃ p, Lib.BuilderAt 156 5 B b p (Lib.byteCells l) w := by
    rcases h with h | h
    · exact ⟨_, h⟩
    · exact ⟨_, h⟩
  have hl0 : l.length ≠ 0 := by simpa using h0
  rw [Lib.byteCells_length] at hown
  obtain ⟨g, cap, cur, rfl, hbg, hg, hnc, hcm, hcs, htake⟩ : ∃ g cap cur, v = .slice (some ⟨g, 0, none⟩) l.length cap ∧ B ≤ g ∧ w.heap[g]? = some (.cells cur 5 (0, 0)) ∧ l.length ≤ cap ∧ cap ≤ maxLen ∧ cur.size = cap * 1 ∧ cur.toList.take (l.length * 1) = Lib.byteCells l := by
    rcases hown.2 with ⟨_, hz⟩ | ⟨g, cap, cur, hv, r⟩
    · exact absurd hz hl0
    · exact ⟨g, cap, cur, hv, r⟩
  have c1 : w.drew.cell? ⟨b, 1, none⟩ = some (.slice (some ⟨g, 0, none⟩) l.length cap) := by
    have : w.drew.heap[b]? = some (.cells #[p, .slice (some ⟨g, 0, none⟩) l.length cap] 156 (0, 0)) := hbk
    rw [Lib.cell_of_heap this]; rfl
  have hSD : (Builtin.unsafeSliceData_ #[25] 96 #[.slice (some ⟨g, 0, none⟩) l.length cap]).run Tryz.prog w.drew = .ok (.pointer (some ⟨g, 0, none⟩)) w.drew :=
    Lib.run_unsafeSliceData_row _ _ _ _ _ _ (by omega)
  have hUS : (Builtin.unsafeString_ #[96, 3] 9 #[.pointer (some ⟨g, 0, none⟩), .int .i64 l.length]).run Tryz.prog w.drew = .ok (.string ⟨l.toArray⟩) (w.drew.freeze ⟨g, 0, none⟩ l.length) := by
    refine Lib.run_unsafeString_row w.drew 96 3 9 5 Tryz.underlying96 b_cellsByte g cur.size (by have hg' : w.drew.heap[g]? = some (.cells cur 5 (0, 0)) := hg; simp [World.shape?, hg']) l h0 (by omega) (by unfold maxLen at hcm; omega) ?_
    intro j x hx
    have := hown.cells (g := g) rfl j (.int .u8 x.toNat) (by simp [Lib.byteCells, hx])
    exact this
  go_enter Tryz.func92, Tryz.ntmps92
  go_wp2
  have mixed : Tryz.prog.follows .mixedOrders = true := by kernel_rfl
  go_region_o
  all_goals (go_wp2; go_ret; exact ⟨rfl, g, l.length, ⟨p, cap, hbk⟩, rfl⟩)
theorem freeze_far (w : World) (g n k : Nat) (h : k ≠ g) : (w.drew.freeze ⟨g, 0, none⟩ n).heap[k]? = w.heap[k]? := by
  unfold World.freeze
  split
  · rfl
  · show (w.heap.modify g _)[k]? = _
    rw [Array.getElem?_modify, if_neg (Ne.symm h)]
end Go.Proofs.YtgkamgijnhbcbaaGreatDoor
namespace Go.Proofs.YtgkamgijnhbcbaaGreatDoor
open Go.RowKit Go.Proofs
open Go.Vt
attribute [local go_sem] Oper.semAt_some
theorem below_putObj {B : Nat} {W : World} {l : Nat} (h : B ≤ l) (o : Obj) : Below B W (W.putObj l o) := by
  have hg := grownBy_putObj' W l o
  exact ⟨hg.os, hg.tape, hg.output, hg.size, fun k hk => World.putObj_heap_other (by omega)⟩
/-- What the loop's body leaves. -/
def BodyP (d b : Nat) (W W' : World) : Prop := KeepsOthers W W' ∧ (∃ q cap cur, (q ≠ b + 1 ∧ d ≤ q ∧ q ≠ b ∧ 10 ≤ cap ∧ cap ≤ maxLen ∧ cur.size = cap * 1 ∧ cur.toList.take 10 = [.int .u8 48, .int .u8 32, .int .u8 49, .int .u8 32, .int .u8 91, .int .u8 93, .int .u8 32, .int .u8 91, .int .u8 93, .int .u8 10]) ∧ W'.heap[b]? = some (.cells #[.pointer (some ⟨b, 0, none⟩), .slice (some ⟨q, 0, none⟩) 10 cap] 156 (0, 0)) ∧ W'.heap[q]? = some (.cells cur 5 (0, 0))) ∧ W'.heap[b + 1]? = W.heap[b + 1]? ∧ Below d W W'
set_option maxRecDepth 100000 in
theorem lines_ok (w : World) : Calls Tryz.prog 88 #[.string ⟨#[99, 114, 101, 97, 116, 101, 32, 112, 10]⟩] w fun e w' => e = .returned (.func (.func 114) #[] #[.pointer (some ⟨w.heap.size, 0, none⟩)]) ∧ w' = w.alloc (Obj.cells #[.string ⟨#[99, 114, 101, 97, 116, 101, 32, 112, 10]⟩] 9) := by
  go_enter Tryz.func88, Tryz.ntmps88
  go_wp2
  go_ret
  exact ⟨rfl, rfl⟩
set_option maxRecDepth 100000 in
set_option maxHeartbeats 4000000 in
theorem run_ok (w : World) : Calls Tryz.prog 62 #[.string ⟨#[99, 114, 101, 97, 116, 101, 32, 112, 10]⟩] w fun e w' => e = .returned (.tuple #[.string ⟨#[48, 32, 49, 32, 91, 93, 32, 91, 93, 10]⟩, .int .i64 0]) ∧ Below w.heap.size w w' := by
  refine (callsIn_wide (n := 4)).1 ?_
  refine callsIn_of_wp_marks Tryz.func62 rfl trivial ?_ rfl
  simp only [Tryz.ntmps62, List.size_toArray, List.length_cons, List.length_nil, Nat.reduceAdd, Nat.reduceSub, Array.replicate_succ, Array.replicate_zero, List.push_toArray, List.append_toArray, List.nil_append, List.cons_append]
  refine wpIn_wide.2 ?_
  go_wp2_with (go_at_call 86; refine (start43 _).mono ?_; rintro e w1 ⟨rfl, hw⟩; obtain rfl := hw.symm)
  have hD : ((w.alloc (Obj.cells #[.string ⟨#[]⟩, .slice none 0 0, .int .i64 0, .slice none 0 0, .string ⟨#[]⟩, .slice none 0 0, .slice none 0 0, .int .i64 0, .int .i64 0, .slice none 0 0] 152)).alloc (Obj.cells #[.pointer (some ⟨w.heap.size, 0, none⟩)] 139)).heap[w.heap.size]? = some (Obj.cells #[.string ⟨#[]⟩, .slice none 0 0, .int .i64 0, .slice none 0 0, .string ⟨#[]⟩, .slice none 0 0, .slice none 0 0, .int .i64 0, .int .i64 0, .slice none 0 0] 152) := (Below.heap_alloc _ _ _ (by simp)).trans (heap_alloc_new w _)
  have hP : ((w.alloc (Obj.cells #[.string ⟨#[]⟩, .slice none 0 0, .int .i64 0, .slice none 0 0, .string ⟨#[]⟩, .slice none 0 0, .slice none 0 0, .int .i64 0, .int .i64 0, .slice none 0 0] 152)).alloc (Obj.cells #[.pointer (some ⟨w.heap.size, 0, none⟩)] 139)).heap[w.heap.size + 1]? = some (Obj.cells #[.pointer (some ⟨w.heap.size, 0, none⟩)] 139) := by
    have := heap_alloc_new (w.alloc (Obj.cells #[.string ⟨#[]⟩, .slice none 0 0, .int .i64 0, .slice none 0 0, .string ⟨#[]⟩, .slice none 0 0, .slice none 0 0, .int .i64 0, .int .i64 0, .slice none 0 0] 152)) (Obj.cells #[.pointer (some ⟨w.heap.size, 0, none⟩)] 139)
    rwa [World.size_alloc] at this
  have hA : Below w.heap.size w ((w.alloc (Obj.cells #[.string ⟨#[]⟩, .slice none 0 0, .int .i64 0, .slice none 0 0, .string ⟨#[]⟩, .slice none 0 0, .slice none 0 0, .int .i64 0, .int .i64 0, .slice none 0 0] 152)).alloc (Obj.cells #[.pointer (some ⟨w.heap.size, 0, none⟩)] 139)) := ((Below.refl _ _).alloc (Nat.le_refl _) _).alloc (by simp) _
  have hsz : ((w.alloc (Obj.cells #[.string ⟨#[]⟩, .slice none 0 0, .int .i64 0, .slice none 0 0, .string ⟨#[]⟩, .slice none 0 0, .slice none 0 0, .int .i64 0, .int .i64 0, .slice none 0 0] 152)).alloc (Obj.cells #[.pointer (some ⟨w.heap.size, 0, none⟩)] 139)).heap.size = w.heap.size + 2 := by simp
  generalize World.alloc (World.alloc w _) _ = W0 at hD hP hA hsz ⊢
  refine (begin_ok (fun k => k < W0.heap.size ∧ k ≠ w.heap.size) W0 W0 w.heap.size ⟨hD, BelowX.refl (fun k hk => hk.1)⟩ (fun h => h.2 rfl)).mono ?_
  rintro e w1 ⟨rfl, g, hg, hgl, hd1⟩
  have hA1 : Below w.heap.size w w1 := ⟨hd1.2.os.trans hA.os, hd1.2.tape.trans hA.tape, hd1.2.output.trans hA.output, Nat.le_trans hA.size hd1.2.size, fun k hk => (hd1.2.block k ⟨by omega, by omega⟩).trans (hA.block k hk)⟩
  have hP1 : w1.heap[w.heap.size + 1]? = some (Obj.cells #[.pointer (some ⟨w.heap.size, 0, none⟩)] 139) := (hd1.2.block _ ⟨by omega, by omega⟩).trans hP
  have hD1 := hd1.1
  have hs1 := hd1.2.size
  clear hd1 hA hD hP
  go_wp2_with (go_at_call 88; refine (lines_ok _).mono ?_; rintro e w2 ⟨rfl, rfl⟩)
  have hb2 : ((w1.alloc (Obj.cells #[.pointer none, .slice none 0 0] 156)).alloc (Obj.cells #[.string ⟨#[99, 114, 101, 97, 116, 101, 32, 112, 10]⟩] 9)).heap[w1.heap.size]? = some (Obj.cells #[.pointer none, .slice none 0 0] 156) := (Below.heap_alloc _ _ _ (by simp)).trans (heap_alloc_new w1 _)
  have hs2 : ((w1.alloc (Obj.cells #[.pointer none, .slice none 0 0] 156)).alloc (Obj.cells #[.string ⟨#[99, 114, 101, 97, 116, 101, 32, 112, 10]⟩] 9)).heap[w1.heap.size + 1]? = some (Obj.cells #[.string ⟨#[99, 114, 101, 97, 116, 101, 32, 112, 10]⟩] 9) := by
    have := heap_alloc_new (w1.alloc (Obj.cells #[.pointer none, .slice none 0 0] 156)) (Obj.cells #[.string ⟨#[99, 114, 101, 97, 116, 101, 32, 112, 10]⟩] 9)
    rwa [World.size_alloc] at this
  have hB2 : Below w1.heap.size w1 ((w1.alloc (Obj.cells #[.pointer none, .slice none 0 0] 156)).alloc (Obj.cells #[.string ⟨#[99, 114, 101, 97, 116, 101, 32, 112, 10]⟩] 9)) := ((Below.refl _ _).alloc (Nat.le_refl _) _).alloc (by simp) _
  have hz2 : ((w1.alloc (Obj.cells #[.pointer none, .slice none 0 0] 156)).alloc (Obj.cells #[.string ⟨#[99, 114, 101, 97, 116, 101, 32, 112, 10]⟩] 9)).heap.size = w1.heap.size + 2 := by simp
  generalize World.alloc (World.alloc w1 _) _ = W2 at hb2 hs2 hB2 hz2 ⊢
  have hD2 := kept_blk hB2 hD1
  have hP2 := kept_blk hB2 hP1
  have hg2 : NodeAt W2 g := kept_blk hB2 hg
  have hA2 : Below w.heap.size w W2 := hA1.trans (hB2.mono (by omega))
  have hgl1 := hg.lt
  clear hD1 hP1 hg hA1 hB2
  refine wpIn_wide.1 (wpIn_rangeFunc_one (F := Fence.wide) (n := 4) rfl (by omega) (gf := 114) (lb := #[.pointer (some ⟨w1.heap.size + 1, 0, none⟩)]) rfl trivial (enters_of Tryz.func114 (by kernel_rfl) rfl) #[.string ⟨#[99, 114, 101, 97, 116, 101, 32, 112, 10]⟩] (w1.heap.size + 1) (by omega) rfl ?seq
    (fun W => W.heap[w.heap.size]? = some (Obj.cells #[.string ⟨#[104, 101, 114, 101]⟩, .slice none 0 0, .int .i64 800, .slice none 0 0, .string ⟨#[104, 101, 114, 101]⟩, .slice (some ⟨g, 0, none⟩) 1 1, .slice none 0 0, .int .i64 0, .int .i64 800, .slice none 0 0] 152) ∧ NodeAt W g ∧ W.heap[w.heap.size + 1]? = some (Obj.cells #[.pointer (some ⟨w.heap.size, 0, none⟩)] 139) ∧ W.heap[w1.heap.size]? = some (Obj.cells #[.pointer none, .slice none 0 0] 156) ∧ Below w.heap.size w W)
    (fun W => (∃ q cap cur, (q ≠ w1.heap.size + 1 ∧ w.heap.size ≤ q ∧ q ≠ w1.heap.size ∧ 10 ≤ cap ∧ cap ≤ maxLen ∧ cur.size = cap * 1 ∧ cur.toList.take 10 = [.int .u8 48, .int .u8 32, .int .u8 49, .int .u8 32, .int .u8 91, .int .u8 93, .int .u8 32, .int .u8 91, .int .u8 93, .int .u8 10]) ∧ W.heap[w1.heap.size]? = some (.cells #[.pointer (some ⟨w1.heap.size, 0, none⟩), .slice (some ⟨q, 0, none⟩) 10 cap] 156 (0, 0)) ∧ W.heap[q]? = some (.cells cur 5 (0, 0))) ∧ Below w.heap.size w W)
    ?i0 ?i1 ⟨hD2, hg2, hP2, hb2, hA2⟩ { tmps := #[.string ⟨#[99, 114, 101, 97, 116, 101, 32, 112, 10]⟩, undef, .string ⟨#[]⟩, .int .i64 0, .int .i64 0, .pointer (some ⟨w.heap.size + 1, 0, none⟩), .pointer (some ⟨w1.heap.size, 0, none⟩), .string ⟨#[99, 114, 101, 97, 116, 101, 32, 112, 10]⟩, .string ⟨#[99, 114, 101, 97, 116, 101, 32, 112, 10]⟩, .int .i64 0, .int .i64 0, .bool false, undef, .agg #[.string ⟨#[]⟩, .slice none 0 0, .int .i64 0, .slice none 0 0, .string ⟨#[]⟩, .slice none 0 0, .slice none 0 0, .int .i64 0, .int .i64 0, .slice none 0 0], .pointer (some ⟨w.heap.size, 0, none⟩), .pointer (some ⟨w.heap.size, 0, none⟩), .agg #[.string ⟨#[104, 101, 114, 101]⟩, .slice none 0 0, .int .i64 800, .slice none 0 0], .string ⟨#[111, 107]⟩, .string ⟨#[99, 114, 101, 97, 116, 101, 32, 112, 10]⟩, .func (.func 114) #[] #[.pointer (some ⟨w1.heap.size + 1, 0, none⟩)], .string ⟨#[99, 114, 101, 97, 116, 101, 32, 112, 10]⟩, undef, undef, undef, undef, undef, undef, undef], defers := [] } ?assign ?body ?done)
  case seq =>
    intro l J0 J1 W st0 st1 hY h0 hs
    exact lines_iter 3 (w1.heap.size + 1) l (by omega) J0 J1 W st0 hY h0 (hs.trans hs2)
  case i0 => exact (firm_blk (by omega)).and ((firm_blk (by omega)).and ((firm_blk (by omega)).and ((firm_blk (by omega)).and (firm_below (Nat.le_refl _) (by omega) (by omega)))))
  case i1 => exact (Firm.ex fun q => Firm.ex fun cap => Firm.ex fun cur => Firm.of fun hq => (firm_blk (by omega)).and (firm_blk hq.1)).and (firm_below (Nat.le_refl _) (by omega) (by omega))
  case assign =>
    intro l W K hK
    gi_wp2
    exact hK
  case body =>
    intro l W h0 hsb
    obtain ⟨hD, hg, hP, hb, hA⟩ := h0
    refine wpIn_mono (Q := fun e _ W' => e = .normal ∧ BodyP w.heap.size w1.heap.size W W') ?_ ?_
    · have c5 : W.cell? ⟨w.heap.size + 1, 0, none⟩ = some (.pointer (some ⟨w.heap.size, 0, none⟩)) := cell_of_row _ _ 0 _ _ _ hP
      have hbl : w1.heap.size < W.heap.size := (Array.getElem?_eq_some_iff.1 hb).1
      have hord := order_ok (fun k => k < W.heap.size ∧ k ≠ w.heap.size) W.drew W.drew w.heap.size g ⟨hD, BelowX.refl (fun k hk => hk.1)⟩ (fun h => h.2 rfl) (NodeAt.node hg)
      gi_wp2_with fail
      gi_region_with (first
        | (refine ⟨trivial, ?_⟩; gi_at_call 91; refine (CallsIn.inRound l (callsIn_wide.2 (trim48 _))).mono ?_; rintro e w3 ⟨rfl, hw⟩; obtain rfl := hw.symm)
        | (refine ⟨trivial, ?_⟩; gi_at_call 90; refine (CallsIn.inRound l (callsIn_wide.2 hord)).mono ?_; rintro e W4 ⟨rfl, hk4⟩; have hb4 : W4.heap[w1.heap.size]? = some (Obj.cells #[.pointer none, .slice none 0 0] 156) := (hk4.block _ ⟨hbl, by omega⟩).trans hb)
        | (refine ⟨trivial, ?_⟩; gi_at_call 89; refine (CallsIn.inRound l (callsIn_wide.2 (write_fresh W4 w1.heap.size hb4))).mono ?_; rintro e W5 ⟨rfl, hw5⟩))
      all_goals
        gi_wp2
        obtain ⟨cap, cur, e1, e2, e3, e4, e5, e6, hX5⟩ := hw5
        have hz4 : W.heap.size ≤ W4.heap.size := hk4.size
        have key : ∀ k, k < W.heap.size → k ≠ w.heap.size → k ≠ w1.heap.size → W5.heap[k]? = W.heap[k]? := fun k hk h1 h2 => (hX5.block k ⟨by omega, h2⟩).trans (hk4.block k ⟨hk, h1⟩)
        refine ⟨?_, ⟨W4.heap.size, cap, cur, ⟨by omega, by omega, by omega, e3, e4, e5, e6⟩, e1, e2⟩, key _ hsb (by omega) (by omega), ?_⟩
        · refine ⟨Nat.le_trans hk4.size hX5.size, fun k o hko hoc => ?_⟩
          have hlt : k < W.heap.size := (Array.getElem?_eq_some_iff.1 hko).1
          have n1 : k ≠ w.heap.size := by intro e; subst e; rw [hD] at hko; injection hko with hko; subst hko; simp [Obj.isCells] at hoc
          have n2 : k ≠ w1.heap.size := by intro e; subst e; rw [hb] at hko; injection hko with hko; subst hko; simp [Obj.isCells] at hoc
          exact (key k hlt n1 n2).trans hko
        · exact ⟨hX5.os.trans hk4.os, hX5.tape.trans hk4.tape, hX5.output.trans hk4.output, Nat.le_trans hk4.size hX5.size, fun k hk => key k (by omega) (by omega) (by omega)⟩
    · rintro e a W' ⟨rfl, hK, hq, hs, hBl⟩
      exact ⟨rfl, hK, ⟨hq, hA.trans hBl⟩, hs⟩
  case done =>
    intro D W hD h1 hK
    obtain ⟨⟨q, cap, cur, ⟨q1, q2, q3, q4, q5, q6, q7⟩, hbW, hqW⟩, hAW⟩ := h1
    have hsz1 : w1.heap.size < W.heap.size := (Array.getElem?_eq_some_iff.1 hbW).1
    have hbu : Lib.BuilderAt 156 5 w.heap.size w1.heap.size (.pointer (some ⟨w1.heap.size, 0, none⟩)) (Lib.byteCells [48, 32, 49, 32, 91, 93, 32, 91, 93, 10]) W :=
      ⟨by omega, .slice (some ⟨q, 0, none⟩) 10 cap, hbW, ⟨by simp [Lib.byteCells], .inr ⟨q, cap, cur, by simp [Lib.byteCells], q2, hqW, q4, q5, q6, by simpa [Lib.byteCells] using q7⟩⟩, by simpa [Value.ownBlock] using q3⟩
    go_wp2_with fail
    refine (B_String_at w.heap.size w1.heap.size [48, 32, 49, 32, 91, 93, 32, 91, 93, 10] W (.inr hbu) (by decide)).mono ?_
    rintro e W' ⟨rfl, q', n', ⟨p', c', hb'⟩, hW'⟩
    rw [hbW] at hb'
    have hqq : q' = q := by
      injection hb' with hb'
      injection hb' with hb' _ _
      have := congrArg (fun a : Array Value => a[1]?) hb'
      simp at this
      exact this.1.symm
    subst hqq
    have hK' : W'.heap[D]? = some (.deferred (some [])) := by
      rw [hW', freeze_far _ _ _ _ (by intro e; subst e; rw [hqW] at hK; cases hK)]; exact hK
    have hA' : Below w.heap.size w W' := by
      rw [hW']; exact Lib.below_freeze (below_drew hAW) (p := ⟨q', 0, none⟩) q2 _
    clear hW'
    go_wp2_with fail
    refine ⟨by simp, .inl ⟨_, _, rfl, run_takeDeferred hK', ?_⟩⟩
    exact ⟨_, results_tmp2 rfl _ _ _, rfl, hA'.trans (below_putObj (by omega) _)⟩
end Go.Proofs.YtgkamgijnhbcbaaGreatDoor
namespace Go.Proofs.YtgkamgijnhbcbaaGreatDoor
open Go.RowKit Go.Vt Go.Proofs
set_option maxRecDepth 100000 in
/-- The console answers the one word it is asked. -/
theorem alive_ok (w : World) : Calls Tryz.prog 19 #[] w fun e w' => e = .returned (.bool true) ∧ Below w.heap.size w w' := by
  have hc := run_ok w
  have HC := Lib.hid hc
  clear hc
  go_enter Tryz.func19, Tryz.ntmps19
  go_wp2_with fail
  refine HC.out.mono ?_
  rintro e w1 ⟨rfl, hb⟩
  go_wp2_with fail
  go_ret
  exact ⟨rfl, hb⟩
end Go.Proofs.YtgkamgijnhbcbaaGreatDoor
