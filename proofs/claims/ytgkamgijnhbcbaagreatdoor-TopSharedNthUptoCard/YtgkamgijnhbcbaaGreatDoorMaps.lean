/- The package-level tables of the console, as maps. -/
import Derived.Test.YtgkamgijnhbcbaaGreatDoorProg
import Derived.Lib.Hide
import Derived.Laws.Tables
import Derived.Laws.Rows
import Derived.WalkKit
import Derived.WalkSpells
import Derived.WalkLawsBesides
namespace Go.Proofs.YtgkamgijnhbcbaaGreatDoor
open Go.RowKit Go.Proofs
set_option maxRecDepth 100000 in
theorem treed_ok (w : World) (k : Nat) : Calls Tryz.prog 229 #[.func (.func k) #[] #[]] w fun e w' => e = .returned (.func (.func 317) #[] #[.pointer (some ⟨w.heap.size, 0, none⟩)]) ∧ w' = w.alloc (.cells #[.func (.func k) #[] #[]] 342) := by
  go_enter Tryz.func229, Tryz.ntmps229
  go_wp2
  go_ret
  exact ⟨rfl, rfl⟩
set_option maxRecDepth 100000 in
theorem stored_ok (w : World) (k : Nat) : Calls Tryz.prog 258 #[.func (.func k) #[] #[]] w fun e w' => e = .returned (.func (.func 333) #[] #[.pointer (some ⟨w.heap.size, 0, none⟩)]) ∧ w' = w.alloc (.cells #[.func (.func k) #[] #[]] 365) := by
  go_enter Tryz.func258, Tryz.ntmps258
  go_wp2
  go_ret
  exact ⟨rfl, rfl⟩
set_option maxRecDepth 100000 in
theorem read180_ok (w : World) (j k : Nat) : Calls Tryz.prog 240 #[.func (.func j) #[] #[], .func (.func k) #[] #[]] w fun e w' => e = .returned (.func (.func 326) #[] #[.pointer (some ⟨w.heap.size, 0, none⟩), .pointer (some ⟨w.heap.size + 1, 0, none⟩)]) ∧ w' = (w.alloc (.cells #[.func (.func j) #[] #[]] 348)).alloc (.cells #[.func (.func k) #[] #[]] 349) := by
  go_enter Tryz.func240, Tryz.ntmps240
  go_wp2
  go_ret
  exact ⟨rfl, rfl⟩
set_option maxRecDepth 100000 in
theorem read184_ok (w : World) (j k : Nat) : Calls Tryz.prog 244 #[.func (.func j) #[] #[], .func (.func k) #[] #[]] w fun e w' => e = .returned (.func (.func 327) #[] #[.pointer (some ⟨w.heap.size, 0, none⟩), .pointer (some ⟨w.heap.size + 1, 0, none⟩)]) ∧ w' = (w.alloc (.cells #[.func (.func j) #[] #[]] 352)).alloc (.cells #[.func (.func k) #[] #[]] 353) := by
  go_enter Tryz.func244, Tryz.ntmps244
  go_wp2
  go_ret
  exact ⟨rfl, rfl⟩
set_option maxRecDepth 100000 in
theorem read188_ok (w : World) (j k : Nat) : Calls Tryz.prog 248 #[.func (.func j) #[] #[], .func (.func k) #[] #[]] w fun e w' => e = .returned (.func (.func 329) #[] #[.pointer (some ⟨w.heap.size, 0, none⟩), .pointer (some ⟨w.heap.size + 1, 0, none⟩)]) ∧ w' = (w.alloc (.cells #[.func (.func j) #[] #[]] 356)).alloc (.cells #[.func (.func k) #[] #[]] 357) := by
  go_enter Tryz.func248, Tryz.ntmps248
  go_wp2
  go_ret
  exact ⟨rfl, rfl⟩
set_option maxRecDepth 100000 in
theorem read192_ok (w : World) (j k : Nat) : Calls Tryz.prog 252 #[.func (.func j) #[] #[], .func (.func k) #[] #[]] w fun e w' => e = .returned (.func (.func 330) #[] #[.pointer (some ⟨w.heap.size, 0, none⟩), .pointer (some ⟨w.heap.size + 1, 0, none⟩)]) ∧ w' = (w.alloc (.cells #[.func (.func j) #[] #[]] 360)).alloc (.cells #[.func (.func k) #[] #[]] 361) := by
  go_enter Tryz.func252, Tryz.ntmps252
  go_wp2
  go_ret
  exact ⟨rfl, rfl⟩
set_option maxRecDepth 100000 in
theorem read201_ok (w : World) (j k : Nat) : Calls Tryz.prog 261 #[.func (.func j) #[] #[], .func (.func k) #[] #[]] w fun e w' => e = .returned (.func (.func 335) #[] #[.pointer (some ⟨w.heap.size, 0, none⟩), .pointer (some ⟨w.heap.size + 1, 0, none⟩)]) ∧ w' = (w.alloc (.cells #[.func (.func j) #[] #[]] 368)).alloc (.cells #[.func (.func k) #[] #[]] 369) := by
  go_enter Tryz.func261, Tryz.ntmps261
  go_wp2
  go_ret
  exact ⟨rfl, rfl⟩
/-- The function that a maker hands back, over something new. -/
def Made (k : Nat) (w : World) (e : Ending) (w' : World) : Prop := ∃ ps : Array Value, e = .returned (.func (.func k) #[] ps) ∧ Below w.heap.size w w'
theorem keepK {w w1 w2 : World} {b : Nat} {Z : Obj} (h : w1.heap[b]? = some Z ∧ Below b w w1) (hb : Below w1.heap.size w1 w2) : w2.heap[b]? = some Z ∧ Below b w w2 := by
  have hlt : b < w1.heap.size := (Array.getElem?_eq_some_iff.1 h.1).1
  exact ⟨(hb.block b hlt).trans h.1, h.2.trans (hb.mono (by omega))⟩
theorem treed_made (w : World) (k : Nat) : Calls Tryz.prog 229 #[.func (.func k) #[] #[]] w fun e w' => Made 317 w e w' := by
  refine (treed_ok w k).mono ?_
  rintro e w' ⟨rfl, rfl⟩
  exact ⟨_, rfl, (Below.refl _ _).alloc (Nat.le_refl _) _⟩
theorem stored_made (w : World) (k : Nat) : Calls Tryz.prog 258 #[.func (.func k) #[] #[]] w fun e w' => Made 333 w e w' := by
  refine (stored_ok w k).mono ?_
  rintro e w' ⟨rfl, rfl⟩
  exact ⟨_, rfl, (Below.refl _ _).alloc (Nat.le_refl _) _⟩
theorem read180_made (w : World) (j k : Nat) : Calls Tryz.prog 240 #[.func (.func j) #[] #[], .func (.func k) #[] #[]] w fun e w' => Made 326 w e w' := by
  refine (read180_ok w j k).mono ?_
  rintro e w' ⟨rfl, rfl⟩
  exact ⟨_, rfl, ((Below.refl _ _).alloc (Nat.le_refl _) _).alloc (by simp) _⟩
theorem read184_made (w : World) (j k : Nat) : Calls Tryz.prog 244 #[.func (.func j) #[] #[], .func (.func k) #[] #[]] w fun e w' => Made 327 w e w' := by
  refine (read184_ok w j k).mono ?_
  rintro e w' ⟨rfl, rfl⟩
  exact ⟨_, rfl, ((Below.refl _ _).alloc (Nat.le_refl _) _).alloc (by simp) _⟩
theorem read188_made (w : World) (j k : Nat) : Calls Tryz.prog 248 #[.func (.func j) #[] #[], .func (.func k) #[] #[]] w fun e w' => Made 329 w e w' := by
  refine (read188_ok w j k).mono ?_
  rintro e w' ⟨rfl, rfl⟩
  exact ⟨_, rfl, ((Below.refl _ _).alloc (Nat.le_refl _) _).alloc (by simp) _⟩
theorem read192_made (w : World) (j k : Nat) : Calls Tryz.prog 252 #[.func (.func j) #[] #[], .func (.func k) #[] #[]] w fun e w' => Made 330 w e w' := by
  refine (read192_ok w j k).mono ?_
  rintro e w' ⟨rfl, rfl⟩
  exact ⟨_, rfl, ((Below.refl _ _).alloc (Nat.le_refl _) _).alloc (by simp) _⟩
theorem read201_made (w : World) (j k : Nat) : Calls Tryz.prog 261 #[.func (.func j) #[] #[], .func (.func k) #[] #[]] w fun e w' => Made 335 w e w' := by
  refine (read201_ok w j k).mono ?_
  rintro e w' ⟨rfl, rfl⟩
  exact ⟨_, rfl, ((Below.refl _ _).alloc (Nat.le_refl _) _).alloc (by simp) _⟩
theorem wpList_built {P : Program} {ops : Array Oper} {rest : List Oper} {o : Oper} {a : Act} {w : World} {Q : Exit → Act → World → Prop} (hg : o.guard = none) (t : TypeId) (parts : Array (Nat × Operand)) (ho : o.op = .build t parts) (cells : Array Value)
    (hc : P.built t (parts.map fun (i, x) => (i, a.eval x)).toList = some cells) (h : wpList P ops Q rest (a.put o.dst (.agg cells)) w) : wpList P ops Q (o :: rest) a w :=
  wpList_build hg t parts ho (by rw [hc]; rfl) (by rw [hc]; exact h)
/-- The table of the ops. -/
def opsArr (p : Nat → Array Value) : Array Value := #[.bool false, .bool false, .bool false, .bool false, .nilFunc, .bool false, .bool false, .bool true, .bool false, .func (.func 228) #[] #[], .bool true, .bool true, .bool false, .bool false, .func (.func 317) #[] (p 0), .bool true, .bool true, .bool false, .bool false, .func (.func 317) #[] (p 1), .bool true, .bool false, .bool false, .bool false, .func (.func 317) #[] (p 2), .bool true, .bool false, .bool true, .bool true, .func (.func 317) #[] (p 3), .bool true, .bool false, .bool true, .bool false, .func (.func 317) #[] (p 4), .bool true, .bool false, .bool true, .bool false, .func (.func 326) #[] (p 5), .bool true, .bool false, .bool true, .bool false, .func (.func 327) #[] (p 6), .bool true, .bool false, .bool true, .bool false, .func (.func 329) #[] (p 7), .bool true, .bool false, .bool true, .bool false, .func (.func 330) #[] (p 8), .bool true, .bool false, .bool true, .bool false, .func (.func 326) #[] (p 9), .bool true, .bool false, .bool true, .bool false, .func (.func 257) #[] #[], .bool true, .bool false, .bool false, .bool false, .func (.func 333) #[] (p 10), .bool true, .bool false, .bool false, .bool false, .func (.func 335) #[] (p 11), .bool true, .bool true, .bool true, .bool false, .func (.func 333) #[] (p 12), .bool true, .bool true, .bool false, .bool false, .func (.func 333) #[] (p 13), .bool true, .bool false, .bool false, .bool false, .func (.func 269) #[] #[], .bool false, .bool false, .bool false, .bool false, .func (.func 270) #[] #[]]
theorem ops_built (p : Nat → Array Value) : Tryz.prog.built 276 [(1, .agg #[.bool false, .bool false, .bool true, .bool false, .func (.func 228) #[] #[]]), (2, .agg #[.bool true, .bool true, .bool false, .bool false, .func (.func 317) #[] (p 0)]), (3, .agg #[.bool true, .bool true, .bool false, .bool false, .func (.func 317) #[] (p 1)]), (4, .agg #[.bool true, .bool false, .bool false, .bool false, .func (.func 317) #[] (p 2)]), (5, .agg #[.bool true, .bool false, .bool true, .bool true, .func (.func 317) #[] (p 3)]), (6, .agg #[.bool true, .bool false, .bool true, .bool false, .func (.func 317) #[] (p 4)]), (7, .agg #[.bool true, .bool false, .bool true, .bool false, .func (.func 326) #[] (p 5)]), (8, .agg #[.bool true, .bool false, .bool true, .bool false, .func (.func 327) #[] (p 6)]), (9, .agg #[.bool true, .bool false, .bool true, .bool false, .func (.func 329) #[] (p 7)]), (10, .agg #[.bool true, .bool false, .bool true, .bool false, .func (.func 330) #[] (p 8)]), (11, .agg #[.bool true, .bool false, .bool true, .bool false, .func (.func 326) #[] (p 9)]), (12, .agg #[.bool true, .bool false, .bool true, .bool false, .func (.func 257) #[] #[]]), (13, .agg #[.bool true, .bool false, .bool false, .bool false, .func (.func 333) #[] (p 10)]), (14, .agg #[.bool true, .bool false, .bool false, .bool false, .func (.func 335) #[] (p 11)]), (15, .agg #[.bool true, .bool true, .bool true, .bool false, .func (.func 333) #[] (p 12)]), (16, .agg #[.bool true, .bool true, .bool false, .bool false, .func (.func 333) #[] (p 13)]), (17, .agg #[.bool true, .bool false, .bool false, .bool false, .func (.func 269) #[] #[]]), (18, .agg #[.bool false, .bool false, .bool false, .bool false, .func (.func 270) #[] #[]])] = some (opsArr p) := by
  kernel_rfl
theorem keep0 {w W : World} {Z : Obj} (h : w.alloc Z = W) : W.heap[w.heap.size]? = some Z ∧ Below w.heap.size w W := by
  subst h; exact ⟨heap_alloc_new w Z, (Below.refl _ _).alloc (Nat.le_refl _) _⟩
theorem below_setRow {B : Nat} {w w' : World} (h : Below B w w') {g : Nat} (hg : B ≤ g) (cs : Array Value) : Below B w (w'.setRow g cs) :=
  ⟨h.os, h.tape, h.output, by rw [setRow_size]; exact h.size, fun k hk => by rw [setRow_other _ _ _ _ (by omega)]; exact h.block k hk⟩
set_option maxRecDepth 100000 in
set_option maxHeartbeats 2000000 in
theorem ops_ok (w : World) : Calls Tryz.prog 189 #[] w fun e w' => (∃ p, e = .returned (.agg (opsArr p))) ∧ Below w.heap.size w w' := by
  go_enter Tryz.func189, Tryz.ntmps189
  go_wp2_with fail
  generalize hW : w.alloc _ = W
  have hK := keep0 hW
  clear hW
  go_wp2_with fail
  refine (treed_made _ _).mono ?_; rintro e w1 ⟨q0, rfl, hb⟩; replace hK := keepK hK hb; clear hb
  go_wp2_with fail
  refine (treed_made _ _).mono ?_; rintro e w1 ⟨q1, rfl, hb⟩; replace hK := keepK hK hb; clear hb
  go_wp2_with fail
  refine (treed_made _ _).mono ?_; rintro e w1 ⟨q2, rfl, hb⟩; replace hK := keepK hK hb; clear hb
  go_wp2_with fail
  refine (treed_made _ _).mono ?_; rintro e w1 ⟨q3, rfl, hb⟩; replace hK := keepK hK hb; clear hb
  go_wp2_with fail
  refine (treed_made _ _).mono ?_; rintro e w1 ⟨q4, rfl, hb⟩; replace hK := keepK hK hb; clear hb
  go_wp2_with fail
  refine (read180_made _ _ _).mono ?_; rintro e w1 ⟨q5, rfl, hb⟩; replace hK := keepK hK hb; clear hb
  go_wp2_with fail
  refine (read184_made _ _ _).mono ?_; rintro e w1 ⟨q6, rfl, hb⟩; replace hK := keepK hK hb; clear hb
  go_wp2_with fail
  refine (read188_made _ _ _).mono ?_; rintro e w1 ⟨q7, rfl, hb⟩; replace hK := keepK hK hb; clear hb
  go_wp2_with fail
  refine (read192_made _ _ _).mono ?_; rintro e w1 ⟨q8, rfl, hb⟩; replace hK := keepK hK hb; clear hb
  go_wp2_with fail
  refine (read180_made _ _ _).mono ?_; rintro e w1 ⟨q9, rfl, hb⟩; replace hK := keepK hK hb; clear hb
  go_wp2_with fail
  refine (stored_made _ _).mono ?_; rintro e w1 ⟨q10, rfl, hb⟩; replace hK := keepK hK hb; clear hb
  go_wp2_with fail
  refine (read201_made _ _ _).mono ?_; rintro e w1 ⟨q11, rfl, hb⟩; replace hK := keepK hK hb; clear hb
  go_wp2_with fail
  refine (stored_made _ _).mono ?_; rintro e w1 ⟨q12, rfl, hb⟩; replace hK := keepK hK hb; clear hb
  go_wp2_with fail
  refine (stored_made _ _).mono ?_; rintro e w1 ⟨q13, rfl, hb⟩; replace hK := keepK hK hb; clear hb
  obtain ⟨p, h0, h1, h2, h3, h4, h5, h6, h7, h8, h9, h10, h11, h12, h13⟩ : ∃ p : Nat → Array Value, q0 = p 0 ∧ q1 = p 1 ∧ q2 = p 2 ∧ q3 = p 3 ∧ q4 = p 4 ∧ q5 = p 5 ∧ q6 = p 6 ∧ q7 = p 7 ∧ q8 = p 8 ∧ q9 = p 9 ∧ q10 = p 10 ∧ q11 = p 11 ∧ q12 = p 12 ∧ q13 = p 13 := ⟨fun n => [q0, q1, q2, q3, q4, q5, q6, q7, q8, q9, q10, q11, q12, q13].getD n #[], rfl, rfl, rfl, rfl, rfl, rfl, rfl, rfl, rfl, rfl, rfl, rfl, rfl, rfl⟩
  subst h0 h1 h2 h3 h4 h5 h6 h7 h8 h9 h10 h11 h12 h13
  go_wp2_with (first | (refine wpList_built rfl 276 _ rfl (opsArr p) (by kernel_rfl) ?_) | (refine wpList_store_row rfl 276 _ _ rfl w.heap.size (opsArr p) rfl rfl 276 _ hK.1 (by kernel_rfl) (by kernel_rfl) (by kernel_rfl) ?_))
  refine bodyPost_ret (results_cell_row rfl _ _ w.heap.size 276 (opsArr p) (0, 0) _ rfl (setRow_heap _ _ _ _ _ _ hK.1) (show Tryz.prog.underlying 276 = some (.array 19 275) from by kernel_rfl) rfl (by kernel_rfl)) rfl ⟨⟨p, rfl⟩, below_setRow hK.2 (Nat.le_refl _) _⟩
end Go.Proofs.YtgkamgijnhbcbaaGreatDoor
