/- The console: forms of an order. -/
import Derived.Test.YtgkamgijnhbcbaaGreatDoorMaps
import Derived.WalkKit
import Derived.WalkSpells
import Derived.WalkLawsBesides
import Derived.Deep.QuietTactic
import Derived.BigQuiet
import Derived.OwnWalk
import Derived.Test.YtgkamgijnhbcbaaGreatDoorGen
import Derived.Test.YtgkamgijnhbcbaaGreatDoorProg
import Derived.Deep.MidRow
namespace Go.Proofs.YtgkamgijnhbcbaaGreatDoor
open Go.RowKit Go.Proofs
set_option maxRecDepth 100000 in
theorem hassuf88 (w : World) : Calls Tryz.prog 145 #[.string ⟨#[99, 114, 101, 97, 116, 101, 32, 112, 10]⟩, .string ⟨#[10]⟩] w fun e w' => e = .returned (.bool true) ∧ w' = w := by
  go_enter Tryz.func145, Tryz.ntmps145
  go_wp2
  go_ret
  exact ⟨by kernel_rfl, rfl⟩
set_option maxRecDepth 100000 in
theorem trim48 (w : World) : Calls Tryz.prog 91 #[.string ⟨#[99, 114, 101, 97, 116, 101, 32, 112, 10]⟩, .string ⟨#[10]⟩] w fun e w' => e = .returned (.string ⟨#[99, 114, 101, 97, 116, 101, 32, 112]⟩) ∧ w' = w := by
  go_enter Tryz.func91, Tryz.ntmps91
  go_wp2_with (first | (go_at_call 145; refine (hassuf88 _).mono ?_; rintro e w1 ⟨rfl, rfl⟩) | go_in)
  go_ret
  exact ⟨by kernel_rfl, rfl⟩
theorem count86 (w : World) : (callFunc 143 #[.string ⟨#[99, 114, 101, 97, 116, 101, 32, 112, 10]⟩, .int .u8 10]).run Tryz.prog w = .ok (.value (.int .i64 1)) w := by kernel_rfl
theorem index124 (w : World) : (callFunc 184 #[.string ⟨#[99, 114, 101, 97, 116, 101, 32, 112, 10]⟩, .int .u8 10]).run Tryz.prog w = .ok (.value (.int .i64 8)) w := by kernel_rfl
theorem index124s (w : World) : (callFunc 184 #[.string ⟨#[99, 114, 101, 97, 116, 101, 32, 112]⟩, .int .u8 32]).run Tryz.prog w = .ok (.value (.int .i64 6)) w := by kernel_rfl
theorem nlbyte : (((⟨#[10]⟩ : ByteArray)[0]).toNat : Int) = 10 := by rfl
theorem spbyte : (((⟨#[32]⟩ : ByteArray)[0]).toNat : Int) = 32 := by rfl
set_option maxRecDepth 100000 in
theorem start43 (w : World) : Calls Tryz.prog 86 #[.string ⟨#[99, 114, 101, 97, 116, 101, 32, 112, 10]⟩] w fun e w' => e = .returned (.int .i64 0) ∧ w' = w := by
  go_enter Tryz.func86, Tryz.ntmps86
  have h1 := count86
  have h2 := nlbyte
  go_wp2_with (first | (go_at_call 145; refine (hassuf88 _).mono ?_; rintro e w1 ⟨rfl, rfl⟩) | go_in)
  go_ret
  exact ⟨by kernel_rfl, rfl⟩
set_option maxRecDepth 100000 in
theorem indexb60 (w : World) : Calls Tryz.prog 115 #[.string ⟨#[99, 114, 101, 97, 116, 101, 32, 112, 10]⟩, .int .u8 10] w fun e w' => e = .returned (.int .i64 8) ∧ w' = w := by
  go_enter Tryz.func115, Tryz.ntmps115
  have h1 := index124
  go_wp2
  go_ret
  exact ⟨by kernel_rfl, rfl⟩
set_option maxRecDepth 100000 in
theorem cut118 (w : World) : Calls Tryz.prog 175 #[.string ⟨#[99, 114, 101, 97, 116, 101, 32, 112]⟩, .string ⟨#[32]⟩] w fun e w' => e = .returned (.tuple #[.string ⟨#[99, 114, 101, 97, 116, 101]⟩, .string ⟨#[112]⟩, .bool true]) ∧ ∃ n, w' = w.drewN n := by
  go_enter Tryz.func175, Tryz.ntmps175
  have h1 := index124s
  have h2 := spbyte
  go_wp2
  go_quiet (fail)
  go_wp2
  go_ret3
  exact ⟨by kernel_rfl, _, rfl⟩
set_option maxRecDepth 100000 in
theorem cut78 (w : World) : Calls Tryz.prog 133 #[.string ⟨#[99, 114, 101, 97, 116, 101, 32, 112]⟩, .string ⟨#[32]⟩] w fun e w' => e = .returned (.tuple #[.string ⟨#[99, 114, 101, 97, 116, 101]⟩, .string ⟨#[112]⟩, .bool true]) ∧ ∃ n, w' = w.drewN n := by
  go_enter Tryz.func133, Tryz.ntmps133
  go_wp2_with (go_at_call 175; refine (cut118 _).mono ?_; rintro e w1 ⟨rfl, n, rfl⟩)
  go_ret3
  exact ⟨by kernel_rfl, _, rfl⟩
set_option maxRecDepth 100000 in
theorem itoa91_0 (w : World) : Calls Tryz.prog 148 #[.int .i64 0] w fun e w' => e = .returned (.string ⟨#[48]⟩) ∧ w' = w := by
  go_enter Tryz.func148, Tryz.ntmps148
  go_wp2
  go_ret
  exact ⟨by kernel_rfl, rfl⟩
set_option maxRecDepth 100000 in
theorem itoa91_1 (w : World) : Calls Tryz.prog 148 #[.int .i64 1] w fun e w' => e = .returned (.string ⟨#[49]⟩) ∧ w' = w := by
  go_enter Tryz.func148, Tryz.ntmps148
  go_wp2
  go_ret
  exact ⟨by kernel_rfl, rfl⟩
end Go.Proofs.YtgkamgijnhbcbaaGreatDoor
namespace Go.Proofs.YtgkamgijnhbcbaaGreatDoor
open Go.RowKit Go.Proofs
open Go.Vt
/-- The map of the orders' forms, as far as it is asked. -/
def FormsAt (w : World) (r : Nat) : Prop := ∃ es clock, w.heap[r]? = some (.map es clock) ∧ Instr.findNow .string (.string ⟨#[99, 114, 101, 97, 116, 101]⟩) es.toList 0 = some (some (0, .agg #[.int .u8 1, .bool false, .bool false, .bool false, .bool true, .bool false]))
set_option maxRecDepth 100000 in
set_option maxHeartbeats 4000000 in
theorem forms_ok (w : World) : Calls Tryz.prog 151 #[] w fun e w' => (∃ r, e = .returned (.map (some r)) ∧ FormsAt w' r) ∧ Below w.heap.size w w' := by
  have hT : Tryz.prog.underlying 221 = some (.map 9 219) := by kernel_rfl
  have hS : Tryz.prog.underlying 9 = some .string := by kernel_rfl
  go_enter Tryz.func151, Tryz.ntmps151
  go_wp2_with (first | (refine wpList_makeMap rfl 221 rfl ?_; intro w1 hL) | (refine wpList_insert_str rfl 221 _ _ _ rfl hT hS hL (Nat.le_refl _) rfl rfl (by kernel_rfl) ?_; clear hL; intro w1 hL))
  go_ret
  exact ⟨⟨_, rfl, _, _, hL.1, by kernel_rfl⟩, hL.2⟩
end Go.Proofs.YtgkamgijnhbcbaaGreatDoor
namespace Go.Proofs.YtgkamgijnhbcbaaGreatDoor
open Go.RowKit Go.Proofs
open Go.Vt
theorem store_do (W : World) : (store ⟨W.heap.size, 4, none⟩ (.func (.func 228) #[] #[])).run Tryz.prog (W.alloc (Obj.cells #[.bool false, .bool false, .bool true, .bool false, .nilFunc] 275)) = .ok () (W.alloc (Obj.cells #[.bool false, .bool false, .bool true, .bool false, .func (.func 228) #[] #[]] 275)) := by
  rw [run_store _ _ _ _ _ rfl]
  simp [World.cell?_alloc_at, World.frozen?_alloc_at, World.setCell_alloc_at]
set_option maxRecDepth 100000 in
theorem formed_ok (w : World) : Calls Tryz.prog 227 #[.agg #[.int .u8 1, .int .i64 0, .int .i64 0, .string ⟨#[112]⟩, .string ⟨#[]⟩]] w fun e w' => e = .returned (.bool true) ∧ Below w.heap.size w w' := by
  have hs := store_do
  go_enter Tryz.func227, Tryz.ntmps227
  go_wp2_with fail
  generalize hW : w.alloc _ = W
  have hA := Lies.new hW
  clear hW
  refine (ops_ok _).mono ?_
  rintro e w1 ⟨⟨p, rfl⟩, hb⟩
  replace hA := hA.keep (Nat.le_refl _) hb
  clear hb
  have hl := hA.lt
  have hC := (hA.next' (Obj.cells Tryz.zeroCells276 276)).row (by omega) (opsArr p)
  replace hA := (hA.alloc (Nat.le_refl _) (Obj.cells Tryz.zeroCells276 276)).row_other (g := w1.heap.size) (by omega) (by omega) (opsArr p)
  go_wp2_with (refine wpList_store_row rfl 276 _ _ rfl _ (opsArr p) rfl rfl 276 Tryz.zeroCells276 (heap_alloc_new _ _) (by kernel_rfl) (by kernel_rfl) (by kernel_rfl) ?_; generalize World.setRow _ _ _ = W2 at hA hC ⊢; have hl2 := hA.lt; have hl3 := hC.lt; have a0 : (W2).cell? ⟨w.heap.size, 0, none⟩ = some (.int .u8 1) := cell_of_row _ _ 0 _ _ _ hA.1; have a1 : (W2).cell? ⟨w.heap.size, 1, none⟩ = some (.int .i64 0) := cell_of_row _ _ 1 _ _ _ hA.1; have a2 : (W2).cell? ⟨w.heap.size, 2, none⟩ = some (.int .i64 0) := cell_of_row _ _ 2 _ _ _ hA.1; have a3 : (W2).cell? ⟨w.heap.size, 3, none⟩ = some (.string ⟨#[112]⟩) := cell_of_row _ _ 3 _ _ _ hA.1; have a4 : (W2).cell? ⟨w.heap.size, 4, none⟩ = some (.string ⟨#[]⟩) := cell_of_row _ _ 4 _ _ _ hA.1; have c5 : (W2).cell? ⟨w1.heap.size, 5, none⟩ = some (.bool false) := cell_of_row _ _ 5 _ _ _ hC.1; have c6 : (W2).cell? ⟨w1.heap.size, 6, none⟩ = some (.bool false) := cell_of_row _ _ 6 _ _ _ hC.1; have c7 : (W2).cell? ⟨w1.heap.size, 7, none⟩ = some (.bool true) := cell_of_row _ _ 7 _ _ _ hC.1; have c8 : (W2).cell? ⟨w1.heap.size, 8, none⟩ = some (.bool false) := cell_of_row _ _ 8 _ _ _ hC.1; have c9 : (W2).cell? ⟨w1.heap.size, 9, none⟩ = some (.func (.func 228) #[] #[]) := cell_of_row _ _ 9 _ _ _ hC.1)
  go_ret
  exact ⟨rfl, hA.2.alloc (by have := hA.lt; omega) _⟩
set_option maxRecDepth 100000 in
theorem check_call (w : World) : Calls Tryz.prog 188 #[.agg #[.int .u8 1, .int .i64 0, .int .i64 0, .string ⟨#[112]⟩, .string ⟨#[]⟩]] w fun e w' => e = .returned (.int .i64 0) ∧ Below w.heap.size w w' := by
  go_enter Tryz.func188, Tryz.ntmps188
  go_wp2_with fail
  generalize hW : w.alloc _ = W
  have hA := Lies.new hW
  clear hW
  refine (formed_ok _).mono ?_
  rintro e w1 ⟨rfl, hb⟩
  replace hA := hA.keep (Nat.le_refl _) hb
  clear hb
  have hl := hA.lt
  have a0 : (w1).cell? ⟨w.heap.size, 0, none⟩ = some (.int .u8 1) := cell_of_row _ _ 0 _ _ _ hA.1
  have a1 : (w1).cell? ⟨w.heap.size, 1, none⟩ = some (.int .i64 0) := cell_of_row _ _ 1 _ _ _ hA.1
  have a2 : (w1).cell? ⟨w.heap.size, 2, none⟩ = some (.int .i64 0) := cell_of_row _ _ 2 _ _ _ hA.1
  have a3 : (w1).cell? ⟨w.heap.size, 3, none⟩ = some (.string ⟨#[112]⟩) := cell_of_row _ _ 3 _ _ _ hA.1
  have a4 : (w1).cell? ⟨w.heap.size, 4, none⟩ = some (.string ⟨#[]⟩) := cell_of_row _ _ 4 _ _ _ hA.1
  go_wp2
  go_ret
  exact ⟨rfl, hA.2⟩
end Go.Proofs.YtgkamgijnhbcbaaGreatDoor
