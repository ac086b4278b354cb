/- The argument of the law is data of its shape; a world that holds the listed variables. -/
import Derived.Test.YtgkamgijnhbcbaaGreatDoorRows
import Derived.Test.YtgkamgijnhbcbaaGreatDoorRead
import Derived.Test.YtgkamgijnhbcbaaGreatDoorSeeAll
import Derived.ProofKit
import Derived.OpenShut
import Derived.Deep.DeepHandedRow
import Derived.Deep.DeepWitnessRowRef
import Derived.LaidByText
import Derived.Lib.LaidIn
import Derived.Lib.LaidTab
namespace Go.Proofs.YtgkamgijnhbcbaaGreatDoor
open Go.RowKit Go.Vt Go.Proofs
theorem bulk_ok (H : Type) : BulkOK (H := H) Rows.uptoBulk Rows.uptoBulkAll where
  lit1 := fun l => by cases l <;> simp [Rows.uptoBulk]
  str := fun s => by simp [Rows.uptoBulk]
  nil := by simp [Rows.uptoBulk]
  sl := fun a b => by simp [Rows.uptoBulk]
  agg := fun l => by simp [Rows.uptoBulk]
  n := by simp [Rows.uptoBulkAll]
  c := fun d r => by simp [Rows.uptoBulkAll]
theorem flat132 : flat Tryz.prog 8 132 = some (tab 132) := by kernel_rfl
theorem cells132 : Tryz.prog.cellsOf 132 = (tab 132).length := by kernel_rfl
theorem flat201 : flat Tryz.prog 8 201 = some (tab 201) := by kernel_rfl
theorem cells201 : Tryz.prog.cellsOf 201 = (tab 201).length := by kernel_rfl
theorem flat3 : flat Tryz.prog 8 3 = some (tab 3) := by kernel_rfl
theorem cells3 : Tryz.prog.cellsOf 3 = (tab 3).length := by kernel_rfl
theorem flat4 : flat Tryz.prog 8 4 = some (tab 4) := by kernel_rfl
theorem cells4 : Tryz.prog.cellsOf 4 = (tab 4).length := by kernel_rfl
theorem flatS : flat Tryz.prog 8 56 = some [.sl 132, .int .i64, .bool, .sl 4, .int .i64, .int .i64] := by kernel_rfl
theorem kids_ok : kidsB Tryz.prog [56, 24, 22, 132, 130, 201, 3, 34, 9, 4, 45, 54, 2] = true := by kernel_rfl
theorem tab_ok : TabOK Tryz.prog tab [132, 201, 3, 4] := by
  intro e he
  simp only [List.mem_cons, List.not_mem_nil, or_false] at he
  rcases he with rfl | rfl | rfl | rfl
  · exact ⟨⟨8, flat132⟩, cells132, by decide, by simp [tab]⟩
  · exact ⟨⟨8, flat201⟩, cells201, by decide, by simp [tab]⟩
  · exact ⟨⟨8, flat3⟩, cells3, by decide, by simp [tab]⟩
  · exact ⟨⟨8, flat4⟩, cells4, by decide, by simp [tab]⟩
/-- The argument of the law: data of its type, of as many nodes as its bulk allows; none of its cells is frozen. -/
theorem arg_ok {H : Type} {enc : TypeId × Value → H} {W : World} {v : Value} {d : DataW H} {ps : List MemPlace} (hv : ∃ cs, v = .agg cs) (h : DataW.Trod enc Tryz.prog W 0 (fun _ => true) true 56 v d ps) (hd : Rows.uptoBulk d ≤ 1048576) (hz : W.noneFrozen ps) :
    ∃ (vs : List Value) (row : List C), v = .agg vs.toArray ∧ RdVals (fun k => k < W.heap.size) W row vs ∧ RfVals W row vs ∧ HtRow tab [.sl 132, .int .i64, .bool, .sl 4, .int .i64, .int .i64] row ∧ nodesRow row ≤ 1073741824 := by
  obtain ⟨cs, rfl⟩ := hv
  obtain ⟨fuel, hf⟩ := h
  obtain ⟨row, r1, r2, r3, r4⟩ := read_ok (bulk_ok H) tab_ok fuel 56 _ d ps 8 _ hf flatS (by simp) (by simp only [strMax]; omega)
  exact ⟨cs.toList, row, by simp, r1, r4 hz, r2, by omega⟩
end Go.Proofs.YtgkamgijnhbcbaaGreatDoor
namespace Go.Proofs.YtgkamgijnhbcbaaGreatDoor
open Go.RowKit Go.Vt Go.Proofs
theorem own : ownKnob Tryz.prog.godebug = none := by kernel_rfl
def u8s : DataW Unit → List Value
  | .agg l => l.map fun | .lit (.int k n) => .int k n | _ => .int .u8 0
  | _ => []
/-- A world in which the listed variables hold what their initialisers lay. -/
noncomputable def laidWorld (os : Os) : World :=
  let N := (World.settled Tryz.prog os).heap.size
  let w0 := World.holding Tryz.prog os ⟨#[
    .cells #[.string ⟨#[118, 97, 108, 117, 101, 32, 111, 117, 116, 32, 111, 102, 32, 114, 97, 110, 103, 101]⟩] 652,
    .cells #[.string ⟨#[105, 110, 118, 97, 108, 105, 100, 32, 115, 121, 110, 116, 97, 120]⟩] 652,
    .cells #[.int .u16 9, .int .u16 13, .int .u16 1, .int .u16 32, .int .u16 133, .int .u16 101, .int .u16 160, .int .u16 5760, .int .u16 5600, .int .u16 8192, .int .u16 8202, .int .u16 1, .int .u16 8232, .int .u16 8233, .int .u16 1, .int .u16 8239, .int .u16 8287, .int .u16 48, .int .u16 12288, .int .u16 12288, .int .u16 1] 1003,
    .cells #[.slice (some ⟨N + 2, 0, none⟩) 7 7, .slice none 0 0, .int .i64 2] 1000], #[], []⟩
  let put (h : Array Obj) (g : Nat) (cs : Array Value) : Array Obj := h.modify g fun
    | .cells _ t frozen => .cells cs t frozen
    | o => o
  let h1 := put w0.heap 1 (u8s Rows.laid_internal_strconv_uint64pow10).toArray
  let h2 := put h1 2 #[.iface 650 (.pointer (some ⟨N + 1, 0, none⟩))]
  let h3 := put h2 3 #[.iface 650 (.pointer (some ⟨N, 0, none⟩))]
  let h4 := put h3 4 (u8s Rows.laid_unicode_utf8_first).toArray
  let h5 := put h4 5 #[.int .u8 128, .int .u8 191, .int .u8 160, .int .u8 191, .int .u8 128, .int .u8 159, .int .u8 144, .int .u8 191, .int .u8 128, .int .u8 143, .int .u8 0, .int .u8 0, .int .u8 0, .int .u8 0, .int .u8 0, .int .u8 0, .int .u8 0, .int .u8 0, .int .u8 0, .int .u8 0, .int .u8 0, .int .u8 0, .int .u8 0, .int .u8 0, .int .u8 0, .int .u8 0, .int .u8 0, .int .u8 0, .int .u8 0, .int .u8 0, .int .u8 0, .int .u8 0]
  let h6 := put h5 6 (u8s Rows.laid_math_bits_deBruijn32tab).toArray
  let h7 := put h6 7 (u8s Rows.laid_math_bits_deBruijn64tab).toArray
  let h8 := put h7 8 (u8s Rows.laid_strings_asciiSpace).toArray
  let h9 := put h8 9 #[.pointer (some ⟨N + 3, 0, none⟩)]
  { w0 with heap := h9 }
noncomputable abbrev wArgs : Array Value := #[.agg #[.slice none 0 0, .int .i64 0, .bool false, .slice none 0 0, .int .i64 0, .int .i64 0]]
noncomputable abbrev N0 : Nat := (World.settled Tryz.prog default).heap.size
noncomputable abbrev laidMem (os : Os) : World := ((laidWorld os).forCall (fun _ _ => 0) ⟨#[], wArgs, []⟩).memory
theorem piece0 (os : Os) : LaidIn Tryz.prog (laidMem os) [("math/bits.deBruijn32tab", Rows.laid_math_bits_deBruijn32tab)] [6] := LaidIn.of_run [6] 12 (by kernel_rfl) (by kernel_rfl) (by kernel_rfl) (by kernel_rfl)
theorem piece1 (os : Os) : LaidIn Tryz.prog (laidMem os) [("math/bits.deBruijn64tab", Rows.laid_math_bits_deBruijn64tab)] [7] := LaidIn.of_run [7] 12 (by kernel_rfl) (by kernel_rfl) (by kernel_rfl) (by kernel_rfl)
theorem piece2 (os : Os) : LaidIn Tryz.prog (laidMem os) [("internal/strconv.uint64pow10", Rows.laid_internal_strconv_uint64pow10)] [1] := LaidIn.of_run [1] 12 (by kernel_rfl) (by kernel_rfl) (by kernel_rfl) (by kernel_rfl)
theorem piece3 (os : Os) : LaidIn Tryz.prog (laidMem os) [("unicode/utf8.acceptRanges", Rows.laid_unicode_utf8_acceptRanges)] [5] := LaidIn.of_run [5] 12 (by kernel_rfl) (by kernel_rfl) (by kernel_rfl) (by kernel_rfl)
theorem piece4 (os : Os) : LaidIn Tryz.prog (laidMem os) [("strconv.ErrRange", Rows.laid_strconv_ErrRange)] [3, N0] := LaidIn.of_run [3, N0] 12 (by kernel_rfl) (by kernel_rfl) (by kernel_rfl) (by kernel_rfl)
theorem piece5 (os : Os) : LaidIn Tryz.prog (laidMem os) [("strconv.ErrSyntax", Rows.laid_strconv_ErrSyntax)] [2, N0 + 1] := LaidIn.of_run [2, N0 + 1] 12 (by kernel_rfl) (by kernel_rfl) (by kernel_rfl) (by kernel_rfl)
theorem piece6 (os : Os) : LaidIn Tryz.prog (laidMem os) [("unicode.White_Space", Rows.laid_unicode_White_Space)] [9, N0 + 2, N0 + 3] := LaidIn.of_run [9, N0 + 2, N0 + 3] 12 (by kernel_rfl) (by kernel_rfl) (by kernel_rfl) (by kernel_rfl)
theorem piece7 (os : Os) : LaidIn Tryz.prog (laidMem os) [("strings.asciiSpace", Rows.laid_strings_asciiSpace)] [8] := LaidIn.of_run [8] 12 (by kernel_rfl) (by kernel_rfl) (by kernel_rfl) (by kernel_rfl)
theorem piece8 (os : Os) : LaidIn Tryz.prog (laidMem os) [("unicode/utf8.first", Rows.laid_unicode_utf8_first)] [4] := LaidIn.of_run [4] 12 (by kernel_rfl) (by kernel_rfl) (by kernel_rfl) (by kernel_rfl)
theorem laid_met (os : Os) : laidMet Tryz.prog Rows.topSharedNthUptoRow.laid (laidMem os) := (((((((((piece0 os).append (piece1 os) (by kernel_rfl)).append (piece2 os) (by kernel_rfl)).append (piece3 os) (by kernel_rfl)).append (piece4 os) (by kernel_rfl)).append (piece5 os) (by kernel_rfl)).append (piece6 os) (by kernel_rfl)).append (piece7 os) (by kernel_rfl)).append (piece8 os) (by kernel_rfl)).met
theorem reads (os : Os) {H : Type} (enc : TypeId × Value → H) : ∃ places, DataW.whole enc Tryz.prog ((laidWorld os).forCall (fun _ _ => 0) ⟨#[], wArgs, []⟩).memory Tryz.f4.params.toList Rows.topSharedNthSpec.vars false wArgs.toList 8 = some ([.agg [.agg [.nil], .lit (.int .i64 0), .lit (.bool false), .nil, .agg [.lit (.int .i64 0), .lit (.int .i64 0)]]], [], places) :=
  ⟨[], by kernel_rfl⟩
theorem wit_vars (os : Os) : ((laidWorld os).forCall (fun _ _ => 0) ⟨#[], wArgs, []⟩).variablesRefB Tryz.prog = true := by kernel_rfl
theorem wit_rest (os : Os) : ((((laidWorld os).forCall (fun _ _ => 0) ⟨#[], wArgs, []⟩).heap.toList.drop Tryz.prog.globals.size).take ((begin Tryz.prog (fun _ _ => 0) default).world.heap.size - Tryz.prog.globals.size)) = (begin Tryz.prog (fun _ _ => 0) default).world.heap.toList.drop Tryz.prog.globals.size := by kernel_rfl
theorem wit_ok (os : Os) : Input.okWideB Tryz.prog ((laidWorld os).forCall (fun _ _ => 0) ⟨#[], wArgs, []⟩) 4 ⟨#[], wArgs, []⟩ = true := by kernel_rfl
end Go.Proofs.YtgkamgijnhbcbaaGreatDoor
