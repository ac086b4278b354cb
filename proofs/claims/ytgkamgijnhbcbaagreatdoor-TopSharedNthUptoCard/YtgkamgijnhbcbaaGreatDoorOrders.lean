/- The console: each line is an order, written behind the other. -/
import Derived.Test.YtgkamgijnhbcbaaGreatDoorCallHere
import Derived.Test.YtgkamgijnhbcbaaGreatDoorForms
import Derived.WalkKit
import Derived.WalkSpells
import Derived.WalkLawsBesides
import Derived.Test.YtgkamgijnhbcbaaGreatDoorGen
import Derived.RangeFuncNested
import Derived.RangeFuncBound
import Derived.RangeFuncCalls
import Derived.RangeFuncLeaves
import Derived.OwnWalkIn
import Derived.TacticsInMore
import Derived.LoopNIn
import Derived.LoopIn
import Derived.BigRegionIn
namespace Go.Proofs.YtgkamgijnhbcbaaGreatDoor
open Go.RowKit Go.Proofs
open Go.Vt
set_option maxRecDepth 100000 in
set_option maxHeartbeats 4000000 in
theorem called_ok (w : World) : Calls Tryz.prog 117 #[.string ⟨#[99, 114, 101, 97, 116, 101, 32, 112]⟩] w fun e w' => e = .returned (.tuple #[.agg #[.int .u8 1, .int .i64 0, .int .i64 0, .string ⟨#[112]⟩, .string ⟨#[]⟩], .bool true]) ∧ Below w.heap.size w w' := by
  have hT : Tryz.prog.underlying 221 = some (.map 9 219) := by kernel_rfl
  have hS : Tryz.prog.underlying 9 = some .string := by kernel_rfl
  have i0 : ∀ W : World, (Instr.index 224 (.agg #[.bool false, .bool false]) (.int .i64 0)).run Tryz.prog W = .ok (.bool false) W := by intro W; kernel_rfl
  have i1 : ∀ W : World, (Instr.index 224 (.agg #[.bool false, .bool false]) (.int .i64 1)).run Tryz.prog W = .ok (.bool false) W := by intro W; kernel_rfl
  go_enter Tryz.func117, Tryz.ntmps117
  go_wp2_with (go_at_call 133; refine (cut78 _).mono ?_; rintro e w1 ⟨rfl, n, rfl⟩)
  refine (forms_ok _).mono ?_
  rintro e w1 ⟨⟨r, rfl, es, clock, hr, hn⟩, hb⟩
  have hA := Lies.keep ((by repeat (first | exact Lies.here (by simp) (by omega) (by repeat (first | exact Below.refl _ _ | refine below_drew ?_ | refine below_drewN ?_ _ | refine below_alloc _ ?_ (by first | omega | (simp <;> omega)))) | refine Lies.drew ?_ | refine Lies.drewN ?_ _ | refine Lies.alloc ?_ (by omega) _)) : Lies w.heap.size w _ w.heap.size (.cells #[.int .u8 0, .int .i64 0, .int .i64 0, .string ⟨#[]⟩, .string ⟨#[]⟩] 188 (0, 0))) (by omega) hb
  have hB := Lies.keep ((by repeat (first | exact Lies.here (by simp) (by omega) (by repeat (first | exact Below.refl _ _ | refine below_drew ?_ | refine below_drewN ?_ _ | refine below_alloc _ ?_ (by first | omega | (simp <;> omega)))) | refine Lies.drew ?_ | refine Lies.drewN ?_ _ | refine Lies.alloc ?_ (by omega) _)) : Lies w.heap.size w _ (w.heap.size + 1) (.cells #[.string ⟨#[112]⟩] 9 (0, 0))) (by omega) hb
  have hC := Lies.keep ((by repeat (first | exact Lies.here (by simp) (by omega) (by repeat (first | exact Below.refl _ _ | refine below_drew ?_ | refine below_drewN ?_ _ | refine below_alloc _ ?_ (by first | omega | (simp <;> omega)))) | refine Lies.drew ?_ | refine Lies.drewN ?_ _ | refine Lies.alloc ?_ (by omega) _)) : Lies w.heap.size w _ (w.heap.size + 1 + 1) (.cells #[.bool true] 4 (0, 0))) (by omega) hb
  clear hb
  have hlk : ∀ W : World, W = w1 → (Instr.lookup 221 (.map (some r)) (.string ⟨#[99, 114, 101, 97, 116, 101]⟩) true).run Tryz.prog W = .ok (.tuple #[.agg #[.int .u8 1, .bool false, .bool false, .bool false, .bool true, .bool false], .bool true]) W := by
    rintro W rfl; exact run_lookup_str hT hS hr hn
  have hlk1 := hlk w1 rfl
  have la := hA.lt
  have lb := hB.lt
  have lc := hC.lt
  have a0 : (w1).cell? ⟨w.heap.size, 0, none⟩ = some (.int .u8 0) := cell_of_row _ _ 0 _ _ _ hA.1
  have a1 : (w1).cell? ⟨w.heap.size, 1, none⟩ = some (.int .i64 0) := cell_of_row _ _ 1 _ _ _ hA.1
  have a2 : (w1).cell? ⟨w.heap.size, 2, none⟩ = some (.int .i64 0) := cell_of_row _ _ 2 _ _ _ hA.1
  have a3 : (w1).cell? ⟨w.heap.size, 3, none⟩ = some (.string ⟨#[]⟩) := cell_of_row _ _ 3 _ _ _ hA.1
  have a4 : (w1).cell? ⟨w.heap.size, 4, none⟩ = some (.string ⟨#[]⟩) := cell_of_row _ _ 4 _ _ _ hA.1
  have b0 : (w1).cell? ⟨(w.heap.size + 1), 0, none⟩ = some (.string ⟨#[112]⟩) := cell_of_row _ _ 0 _ _ _ hB.1
  have c0 : (w1).cell? ⟨(w.heap.size + 1 + 1), 0, none⟩ = some (.bool true) := cell_of_row _ _ 0 _ _ _ hC.1
  have af : ∀ j, w1.frozen? ⟨w.heap.size, j, none⟩ = false := fun j => by simp [World.frozen?, hA.1]
  clear hlk hr hn
  go_wp2_with fail
  refine Rounds.loop 3 ?_
  unfold Rounds
  go_wp2_with fail
  unfold Rounds
  go_wp2_with fail
  unfold Rounds
  have l1 : (w.heap.size + 1) < w1.heap.size + 1 := by omega
  have l2 : (w.heap.size + 1 + 1) < w1.heap.size + 1 := by omega
  have l3 : w.heap.size < w1.heap.size + 1 := by omega
  have l4 : w.heap.size < w1.heap.size + 1 + 1 := by omega
  have l5 : (w.heap.size + 1) < w1.heap.size + 1 + 1 := by omega
  have l6 : (w.heap.size + 1 + 1) < w1.heap.size + 1 + 1 := by omega
  go_wp2_with fail
  have hF : Lies w.heap.size w _ w.heap.size (.cells #[.int .u8 1, .int .i64 0, .int .i64 0, .string ⟨#[112]⟩, .string ⟨#[]⟩] 188 (0, 0)) := (((((((hA.cell (by omega) 0 (.int .u8 1)).cell (by omega) 1 (.int .i64 0)).cell (by omega) 2 (.int .i64 0)).cell (by omega) 3 (.string ⟨#[112]⟩)).cell (by omega) 4 (.string ⟨#[]⟩)).alloc (by omega) (Obj.cells #[.int .u8 1, .bool false, .bool false, .bool false, .bool true, .bool false] 219)).alloc (by omega) (Obj.cells #[.int .u8 1, .int .i64 0, .int .i64 0, .string ⟨#[112]⟩, .string ⟨#[]⟩] 188))
  generalize World.alloc _ _ = W at hF ⊢
  have e0 : (W).cell? ⟨w.heap.size, 0, none⟩ = some (.int .u8 1) := cell_of_row _ _ 0 _ _ _ hF.1
  have e1 : (W).cell? ⟨w.heap.size, 1, none⟩ = some (.int .i64 0) := cell_of_row _ _ 1 _ _ _ hF.1
  have e2 : (W).cell? ⟨w.heap.size, 2, none⟩ = some (.int .i64 0) := cell_of_row _ _ 2 _ _ _ hF.1
  have e3 : (W).cell? ⟨w.heap.size, 3, none⟩ = some (.string ⟨#[112]⟩) := cell_of_row _ _ 3 _ _ _ hF.1
  have e4 : (W).cell? ⟨w.heap.size, 4, none⟩ = some (.string ⟨#[]⟩) := cell_of_row _ _ 4 _ _ _ hF.1
  refine bodyPost_ret (v := .tuple #[.agg #[.int .u8 1, .int .i64 0, .int .i64 0, .string ⟨#[112]⟩, .string ⟨#[]⟩], .bool true]) (by simp [results, Tryz.results117, go_sem, e0, e1, e2, e3, e4]) rfl ⟨rfl, hF.2⟩
set_option maxRecDepth 100000 in
set_option maxHeartbeats 4000000 in
theorem order_ok (X : Nat → Prop) (w0 w : World) (d g : Nat) (h : LiesX X w0 w d (.cells #[.string ⟨#[104, 101, 114, 101]⟩, .slice none 0 0, .int .i64 800, .slice none 0 0, .string ⟨#[104, 101, 114, 101]⟩, .slice (some ⟨g, 0, none⟩) 1 1, .slice none 0 0, .int .i64 0, .int .i64 800, .slice none 0 0] 152 (0, 0))) (hB : ¬ X d) (hg : Node w g) : Calls Tryz.prog 90 #[.pointer (some ⟨d, 0, none⟩), .string ⟨#[99, 114, 101, 97, 116, 101, 32, 112]⟩] w fun e w' => e = .returned (.string ⟨#[48, 32, 49, 32, 91, 93, 32, 91, 93]⟩) ∧ BelowX X w0 w' := by
  go_enter Tryz.func90, Tryz.ntmps90
  go_wp2_with fail
  refine (called_ok _).mono ?_
  rintro e w1 ⟨rfl, hb⟩
  replace h := h.keep hb
  replace hg := hg.keep hb
  clear hb
  go_wp2_with fail
  refine (call_ok X w0 _ d g (h.alloc _) hB (hg.alloc _)).mono ?_
  rintro e w2 ⟨rfl, hb⟩
  go_wp2_with fail
  go_ret
  exact ⟨rfl, hb⟩
end Go.Proofs.YtgkamgijnhbcbaaGreatDoor
namespace Go.Proofs.YtgkamgijnhbcbaaGreatDoor
open Go.RowKit Go.Proofs
open Go.Vt
attribute [local go_sem] Oper.semAt_some
theorem lines_exit : (⟨#[99, 114, 101, 97, 116, 101, 32, 112, 10]⟩ : ByteArray).extract 0 9 = ⟨#[99, 114, 101, 97, 116, 101, 32, 112, 10]⟩ := by decide
theorem lines_rest : (⟨#[99, 114, 101, 97, 116, 101, 32, 112, 10]⟩ : ByteArray).extract 9 9 = ⟨#[]⟩ := by decide
set_option maxRecDepth 100000 in
set_option maxHeartbeats 2000000 in
theorem lines_iter (n sb l : Nat) (_hn : 2 ≤ n) (J0 J1 : World → Prop) (W : World) (st0 : ∀ A B row, J0 A → A.grownBy B row → (∀ r, row = some r → r = sb) → J0 B)
    (hY : ∀ W1, J0 W1 → YieldAt Fence.wide (n - 1) Tryz.prog l #[.string ⟨#[99, 114, 101, 97, 116, 101, 32, 112, 10]⟩] W1 fun e W' => e = .returned (.bool true) ∧ J1 W' ∧ W'.heap[sb]? = W1.heap[sb]?)
    (h0 : J0 W) (hs : W.heap[sb]? = some (.cells #[.string ⟨#[99, 114, 101, 97, 116, 101, 32, 112, 10]⟩] 9 (0, 0))) :
    CallsIn Fence.wide n Tryz.prog 114 (#[.func (.yield l) #[] #[]] ++ #[.pointer (some ⟨sb, 0, none⟩)]) W fun e W' => (∃ v, e = .returned v) ∧ J1 W' := by
  have c0 : W.cell? ⟨sb, 0, none⟩ = some (.string ⟨#[99, 114, 101, 97, 116, 101, 32, 112, 10]⟩) := cell_of_row _ _ 0 _ _ _ hs
  have f0 : W.frozen? ⟨sb, 0, none⟩ = false := by simp [World.frozen?, hs]
  have ex1 := lines_exit
  have ex2 := lines_rest
  obtain ⟨W2, hW2⟩ : ∃ W2, W2 = (W.setCell ⟨sb, 0, none⟩ (.string ByteArray.empty)).drew := ⟨_, rfl⟩
  have hg : W.grownBy W2 (some sb) := by
    rw [hW2]; have := grownBy_setCell W sb 0 (.string ByteArray.empty); exact ⟨this.os, this.tape, this.output, this.size, this.block⟩
  obtain ⟨fn, tmps, assign, body, hy, hR⟩ := hY W2 (st0 _ _ _ h0 hg (fun r e => by cases e; rfl))
  have hL2 : W2.heap[sb]? = some (.cells #[.string ByteArray.empty] 9 (0, 0)) := by
    rw [hW2]; have := (Lies.cell (B := 0) (w := W) (w1 := W) ⟨hs, Below.refl _ _⟩ (Nat.zero_le _) 0 (.string ByteArray.empty)).1; exact this
  subst hW2
  refine callsIn_of_wp_marks Tryz.func114 rfl trivial ?_ rfl
  simp only [Tryz.ntmps114, List.size_toArray, List.length_cons, List.length_nil, Nat.reduceAdd, Nat.reduceSub, Array.replicate_succ, Array.replicate_zero, List.push_toArray, List.append_toArray, List.nil_append, List.cons_append]
  gi_wp2
  refine wpIn_loop_rounds 2 ?_
  rw [roundsIn_succ]
  gi_wp2_with fail
  refine ⟨trivial, fun h => (by cases h), ?_⟩
  refine (callsIn_wide.2 (indexb60 _)).mono ?_
  rintro e w1 ⟨rfl, rfl⟩
  gi_wp2_with fail
  gi_region
  all_goals
    gi_wp2_with fail
    refine ⟨fun h => (by cases h), hR.mono ?_⟩
    rintro e W3 ⟨rfl, hj, hsb⟩
    have hL3 := hsb.trans hL2
    have d0 : W3.cell? ⟨sb, 0, none⟩ = some (.string ByteArray.empty) := cell_of_row _ _ 0 _ _ _ hL3
    gi_wp2_with fail
    rw [roundsIn_succ]
    gi_wp2_with fail
    exact ⟨_, results_none rfl _ _ _, ⟨_, rfl⟩, hj⟩
end Go.Proofs.YtgkamgijnhbcbaaGreatDoor
namespace Go.Proofs.YtgkamgijnhbcbaaGreatDoor
open Go.RowKit Go.Proofs
open Go.Vt
/-- The text lies in the builder b, in a new buffer; all else is as it was. -/
def Wrote (w : World) (b : Nat) (w' : World) : Prop := ∃ cap cur, w'.heap[b]? = some (.cells #[.pointer (some ⟨b, 0, none⟩), .slice (some ⟨w.heap.size, 0, none⟩) 10 cap] 156 (0, 0)) ∧ w'.heap[w.heap.size]? = some (.cells cur 5 (0, 0)) ∧ 10 ≤ cap ∧ cap ≤ maxLen ∧ cur.size = cap * 1 ∧ cur.toList.take 10 = [.int .u8 48, .int .u8 32, .int .u8 49, .int .u8 32, .int .u8 91, .int .u8 93, .int .u8 32, .int .u8 91, .int .u8 93, .int .u8 10] ∧ BelowX (fun k => k < w.heap.size ∧ k ≠ b) w w'
set_option maxRecDepth 100000 in
set_option maxHeartbeats 2000000 in
theorem write_fresh (w : World) (b : Nat) (h : w.heap[b]? = some (.cells #[.pointer none, .slice none 0 0] 156 (0, 0))) : Calls Tryz.prog 89 #[.pointer (some ⟨b, 0, none⟩), .string ⟨#[48, 32, 49, 32, 91, 93, 32, 91, 93, 10]⟩] w fun e w' => e = .returned (.tuple #[.int .i64 10, .nilIface]) ∧ Wrote w b w' := by
  have hl : b < w.heap.size := (Array.getElem?_eq_some_iff.1 h).1
  have c0 : w.cell? ⟨b, 0, none⟩ = some (.pointer none) := cell_of_row _ _ 0 _ _ _ h
  have c1 : w.cell? ⟨b, 1, none⟩ = some (.slice none 0 0) := cell_of_row _ _ 1 _ _ _ h
  have f0 : ∀ j, w.frozen? ⟨b, j, none⟩ = false := fun j => by simp [World.frozen?, h]
  have hsh : w.shape? b = some (156, 2) := by simp [World.shape?, h]
  go_enter Tryz.func89, Tryz.ntmps89
  go_wp2_with (go_at_call 116; refine (B_copyCheck_fresh b w c0 hsh (f0 0)).mono ?_; rintro e w1 ⟨rfl, rfl⟩)
  have hcc : 10 ≤ (Question.appendCap 10 0 5).cut (w.tape w.drawn (Question.appendCap 10 0 5)) := grownCap_ge w 10 0 5
  have hcm : (Question.appendCap 10 0 5).cut (w.tape w.drawn (Question.appendCap 10 0 5)) ≤ maxLen := grownCap_le_maxLen w 10 0 5 (by decide)
  generalize (Question.appendCap 10 0 5).cut _ = cap at hcc hcm ⊢
  have hX : LiesX (fun k => k < w.heap.size ∧ k ≠ b) w w b (.cells #[.pointer none, .slice none 0 0] 156 (0, 0)) := ⟨h, BelowX.refl (fun k hk => hk.1)⟩
  have hb : ¬ (b < w.heap.size ∧ b ≠ b) := fun h => h.2 rfl
  have hY := (hX.cell hb 0 (.pointer (some ⟨b, 0, none⟩))).cell hb 1 (.slice (some ⟨w.heap.size, 0, none⟩) 10 cap)
  have hZ := (hY.alloc (Obj.cells (#[.int .u8 48, .int .u8 32, .int .u8 49, .int .u8 32, .int .u8 91, .int .u8 93, .int .u8 32, .int .u8 91, .int .u8 93, .int .u8 10] ++ Builtin.zeroCells #[.int .u8 0] (cap - 10)) 5)).drew
  have hN := (hY.next' (Obj.cells (#[.int .u8 48, .int .u8 32, .int .u8 49, .int .u8 32, .int .u8 91, .int .u8 93, .int .u8 32, .int .u8 91, .int .u8 93, .int .u8 10] ++ Builtin.zeroCells #[.int .u8 0] (cap - 10)) 5)).drew
  have hsz : ((w.setCell ⟨b, 0, none⟩ (.pointer (some ⟨b, 0, none⟩))).setCell ⟨b, 1, none⟩ (.slice (some ⟨w.heap.size, 0, none⟩) 10 cap)).heap.size = w.heap.size := by simp [World.setCell]
  go_ret2
  exact ⟨rfl, cap, _, hZ.1, hsz ▸ hN.1, hcc, hcm, by simp [Builtin.zeroCells]; omega, by simp, hZ.2⟩
end Go.Proofs.YtgkamgijnhbcbaaGreatDoor
