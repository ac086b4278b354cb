/- vitrinetop.TopSharedAttrs returns true for each argument that the row reads as data of bulk at most 1048576, and the argument reads behind the call as before it; no further condition. -/
import Derived.Test.YtomnkglnbmnmpaaGreatDoorRows
import Derived.Test.YtomnkglnbmnmpaaGreatDoorRead
import Derived.Test.YtomnkglnbmnmpaaGreatDoorSeeAll
import Derived.ProofKit
import Derived.OpenShut
import Derived.Deep.DeepHandedRow
import Derived.Deep.DeepWitnessRowRef
import Derived.LaidByText
import Derived.Lib.LaidIn
import Derived.Lib.LaidTab
import Derived.Test.YtomnkglnbmnmpaaGreatDoorCards
import Derived.Test.YtomnkglnbmnmpaaGreatDoorTie
import Derived.Test.YtomnkglnbmnmpaaGreatDoorFactsAttrs
import Derived.Test.YtomnkglnbmnmpaaGreatDoorTopAttrs
import Derived.WalkKit
namespace Go.Proofs.YtomnkglnbmnmpaaGreatDoor
open Go.RowKit Go.Vt Go.Proofs
theorem bulk_ok (H : Type) : BulkOK (H := H) Rows.uptoBulk Rows.uptoBulkAll where
  lit1 := fun l => by cases l <;> simp [Rows.uptoBulk]
  str := fun s => by simp [Rows.uptoBulk]
  nil := by simp [Rows.uptoBulk]
  sl := fun a b => by simp [Rows.uptoBulk]
  agg := fun l => by simp [Rows.uptoBulk]
  n := by simp [Rows.uptoBulkAll]
  c := fun d r => by simp [Rows.uptoBulkAll]
theorem flatN : flat Tryz.prog 8 107 = some (tab 107) := by kernel_rfl
theorem flatA : flat Tryz.prog 8 116 = some (tab 116) := by kernel_rfl
theorem flatI : flat Tryz.prog 8 3 = some (tab 3) := by kernel_rfl
theorem flatS : flat Tryz.prog 8 45 = some [.sl 107, .int .i64, .str, .str, .str] := by kernel_rfl
theorem cellsN : Tryz.prog.cellsOf 107 = 4 := by kernel_rfl
theorem cellsA : Tryz.prog.cellsOf 116 = 2 := by kernel_rfl
theorem cellsI : Tryz.prog.cellsOf 3 = 1 := by kernel_rfl
theorem kids_ok : kidsB Tryz.prog [45, 24, 22, 107, 105, 116, 3, 70, 9] = true := by kernel_rfl
theorem tab_ok : TabOK Tryz.prog tab [107, 116, 3] := by
  intro e he
  simp only [List.mem_cons, List.not_mem_nil, or_false] at he
  rcases he with rfl | rfl | rfl
  · exact ⟨⟨8, flatN⟩, cellsN, by decide, by simp [tab]⟩
  · exact ⟨⟨8, flatA⟩, cellsA, by decide, by simp [tab]⟩
  · exact ⟨⟨8, flatI⟩, cellsI, by decide, by simp [tab]⟩
/-- The argument of the law: data of its type, of as many nodes as its bulk allows. -/
theorem arg_ok {H : Type} {enc : TypeId × Value → H} {W : World} {v : Value} {d : DataW H} {ps : List MemPlace} (hv : ∃ cs, v = .agg cs) (h : DataW.Trod enc Tryz.prog W 0 (fun _ => true) true 45 v d ps) (hd : Rows.uptoBulk d ≤ 1048576) :
    ∃ (vs : List Value) (row : List C), v = .agg vs.toArray ∧ RdVals (fun k => k < W.heap.size) W row vs ∧ HtRow tab [.sl 107, .int .i64, .str, .str, .str] row ∧ nodesRow row ≤ 1073741824 := by
  obtain ⟨cs, rfl⟩ := hv
  obtain ⟨fuel, hf⟩ := h
  obtain ⟨row, r1, r2, r3⟩ := read_ok (bulk_ok H) tab_ok fuel 45 _ d ps 8 _ hf flatS (by simp) (by simp only [strMax]; omega)
  exact ⟨cs.toList, row, by simp, r1, r2, by omega⟩
end Go.Proofs.YtomnkglnbmnmpaaGreatDoor
namespace Go.Proofs.YtomnkglnbmnmpaaGreatDoor
open Go.RowKit Go.Vt Go.Proofs
theorem own : ownKnob Tryz.prog.godebug = none := by kernel_rfl
def u8s : DataW Unit → List Value
  | .agg l => l.map fun | .lit (.int k n) => .int k n | _ => .int .u8 0
  | _ => []
/-- A world in which the listed variables hold what their initialisers lay. -/
noncomputable def laidWorld (os : Os) : World :=
  let N := (World.settled Tryz.prog os).heap.size
  let w0 := World.holding Tryz.prog os ⟨#[
    .cells #[.string ⟨#[118, 97, 108, 117, 101, 32, 111, 117, 116, 32, 111, 102, 32, 114, 97, 110, 103, 101]⟩] 629,
    .cells #[.string ⟨#[105, 110, 118, 97, 108, 105, 100, 32, 115, 121, 110, 116, 97, 120]⟩] 629,
    .cells #[.int .u16 9, .int .u16 13, .int .u16 1, .int .u16 32, .int .u16 133, .int .u16 101, .int .u16 160, .int .u16 5760, .int .u16 5600, .int .u16 8192, .int .u16 8202, .int .u16 1, .int .u16 8232, .int .u16 8233, .int .u16 1, .int .u16 8239, .int .u16 8287, .int .u16 48, .int .u16 12288, .int .u16 12288, .int .u16 1] 988,
    .cells #[.slice (some ⟨N + 2, 0, none⟩) 7 7, .slice none 0 0, .int .i64 2] 985], #[], []⟩
  let put (h : Array Obj) (g : Nat) (cs : Array Value) : Array Obj := h.modify g fun
    | .cells _ t frozen => .cells cs t frozen
    | o => o
  let h1 := put w0.heap 1 (u8s Rows.laid_internal_strconv_uint64pow10).toArray
  let h2 := put h1 2 #[.iface 627 (.pointer (some ⟨N + 1, 0, none⟩))]
  let h3 := put h2 3 #[.iface 627 (.pointer (some ⟨N, 0, none⟩))]
  let h4 := put h3 4 (u8s Rows.laid_unicode_utf8_first).toArray
  let h5 := put h4 5 #[.int .u8 128, .int .u8 191, .int .u8 160, .int .u8 191, .int .u8 128, .int .u8 159, .int .u8 144, .int .u8 191, .int .u8 128, .int .u8 143, .int .u8 0, .int .u8 0, .int .u8 0, .int .u8 0, .int .u8 0, .int .u8 0, .int .u8 0, .int .u8 0, .int .u8 0, .int .u8 0, .int .u8 0, .int .u8 0, .int .u8 0, .int .u8 0, .int .u8 0, .int .u8 0, .int .u8 0, .int .u8 0, .int .u8 0, .int .u8 0, .int .u8 0, .int .u8 0]
  let h6 := put h5 6 (u8s Rows.laid_math_bits_deBruijn32tab).toArray
  let h7 := put h6 7 (u8s Rows.laid_math_bits_deBruijn64tab).toArray
  let h8 := put h7 8 (u8s Rows.laid_strings_asciiSpace).toArray
  let h9 := put h8 9 #[.pointer (some ⟨N + 3, 0, none⟩)]
  { w0 with heap := h9 }
noncomputable abbrev wArgs : Array Value := #[.agg #[.slice none 0 0, .int .i64 0, .string ⟨#[]⟩, .string ⟨#[]⟩, .string ⟨#[]⟩]]
noncomputable abbrev N0 : Nat := (World.settled Tryz.prog default).heap.size
noncomputable abbrev laidMem (os : Os) : World := ((laidWorld os).forCall (fun _ _ => 0) ⟨#[], wArgs, []⟩).memory
theorem piece0 (os : Os) : LaidIn Tryz.prog (laidMem os) [("math/bits.deBruijn32tab", Rows.laid_math_bits_deBruijn32tab)] [6] := LaidIn.of_run [6] 12 (by kernel_rfl) (by kernel_rfl) (by kernel_rfl) (by kernel_rfl)
theorem piece1 (os : Os) : LaidIn Tryz.prog (laidMem os) [("math/bits.deBruijn64tab", Rows.laid_math_bits_deBruijn64tab)] [7] := LaidIn.of_run [7] 12 (by kernel_rfl) (by kernel_rfl) (by kernel_rfl) (by kernel_rfl)
theorem piece2 (os : Os) : LaidIn Tryz.prog (laidMem os) [("internal/strconv.uint64pow10", Rows.laid_internal_strconv_uint64pow10)] [1] := LaidIn.of_run [1] 12 (by kernel_rfl) (by kernel_rfl) (by kernel_rfl) (by kernel_rfl)
theorem piece3 (os : Os) : LaidIn Tryz.prog (laidMem os) [("unicode/utf8.acceptRanges", Rows.laid_unicode_utf8_acceptRanges)] [5] := LaidIn.of_run [5] 12 (by kernel_rfl) (by kernel_rfl) (by kernel_rfl) (by kernel_rfl)
theorem piece4 (os : Os) : LaidIn Tryz.prog (laidMem os) [("strconv.ErrRange", Rows.laid_strconv_ErrRange)] [3, N0] := LaidIn.of_run [3, N0] 12 (by kernel_rfl) (by kernel_rfl) (by kernel_rfl) (by kernel_rfl)
theorem piece5 (os : Os) : LaidIn Tryz.prog (laidMem os) [("strconv.ErrSyntax", Rows.laid_strconv_ErrSyntax)] [2, N0 + 1] := LaidIn.of_run [2, N0 + 1] 12 (by kernel_rfl) (by kernel_rfl) (by kernel_rfl) (by kernel_rfl)
theorem piece6 (os : Os) : LaidIn Tryz.prog (laidMem os) [("unicode.White_Space", Rows.laid_unicode_White_Space)] [9, N0 + 2, N0 + 3] := LaidIn.of_run [9, N0 + 2, N0 + 3] 12 (by kernel_rfl) (by kernel_rfl) (by kernel_rfl) (by kernel_rfl)
theorem piece7 (os : Os) : LaidIn Tryz.prog (laidMem os) [("strings.asciiSpace", Rows.laid_strings_asciiSpace)] [8] := LaidIn.of_run [8] 12 (by kernel_rfl) (by kernel_rfl) (by kernel_rfl) (by kernel_rfl)
theorem piece8 (os : Os) : LaidIn Tryz.prog (laidMem os) [("unicode/utf8.first", Rows.laid_unicode_utf8_first)] [4] := LaidIn.of_run [4] 12 (by kernel_rfl) (by kernel_rfl) (by kernel_rfl) (by kernel_rfl)
theorem laid_met (os : Os) : laidMet Tryz.prog Rows.topSharedAttrsUptoRow.laid (laidMem os) := (((((((((piece0 os).append (piece1 os) (by kernel_rfl)).append (piece2 os) (by kernel_rfl)).append (piece3 os) (by kernel_rfl)).append (piece4 os) (by kernel_rfl)).append (piece5 os) (by kernel_rfl)).append (piece6 os) (by kernel_rfl)).append (piece7 os) (by kernel_rfl)).append (piece8 os) (by kernel_rfl)).met
theorem reads (os : Os) {H : Type} (enc : TypeId × Value → H) : ∃ places, DataW.whole enc Tryz.prog ((laidWorld os).forCall (fun _ _ => 0) ⟨#[], wArgs, []⟩).memory Tryz.f4.params.toList Rows.topSharedAttrsSpec.vars false wArgs.toList 8 = some ([.agg [.agg [.nil], .lit (.int .i64 0), .lit (.string []), .lit (.string []), .lit (.string [])]], [], places) :=
  ⟨[], by kernel_rfl⟩
theorem wit_vars (os : Os) : ((laidWorld os).forCall (fun _ _ => 0) ⟨#[], wArgs, []⟩).variablesRefB Tryz.prog = true := by kernel_rfl
theorem wit_rest (os : Os) : ((((laidWorld os).forCall (fun _ _ => 0) ⟨#[], wArgs, []⟩).heap.toList.drop Tryz.prog.globals.size).take ((begin Tryz.prog (fun _ _ => 0) default).world.heap.size - Tryz.prog.globals.size)) = (begin Tryz.prog (fun _ _ => 0) default).world.heap.toList.drop Tryz.prog.globals.size := by kernel_rfl
theorem wit_ok (os : Os) : Input.okWideB Tryz.prog ((laidWorld os).forCall (fun _ _ => 0) ⟨#[], wArgs, []⟩) 4 ⟨#[], wArgs, []⟩ = true := by kernel_rfl
end Go.Proofs.YtomnkglnbmnmpaaGreatDoor
namespace Go.Proofs.YtomnkglnbmnmpaaGreatDoor
open Go.ChangeShapes Go.WideShapes Go.ChangeAt Go.RowKit Go.Vt Go.Proofs
set_option maxRecDepth 1000000 in
/-- What the walk gives, for every argument whose bulk is small enough. -/
theorem contract (H : Type) (enc : TypeId × Value → H) (W : World) (base : Nat) (args : Array Value) (ds gs : List (DataW H)) (before : List MemPlace)
    (hval : ∀ (j : Nat) t v, Tryz.f4.params[j]? = some t → args[j]? = some v → Value.okWide Tryz.prog W .any base t v)
    (hW : DataW.Whole enc Tryz.prog Tryz.f4.params.toList Rows.topSharedAttrsSpec.vars false W args.toList ds gs before) (hk : Rows.uptoSmall H (ds ++ gs) = true) :
    Calls Tryz.prog 4 args W fun e W' => ∃ v, e = .returned v ∧ Rows.topSharedAttrsSpec.post enc Tryz.prog Tryz.f4 false true false false W args v W' := by
  have hW' := hW
  obtain ⟨p, q, hA0, hV, rfl, hfz, hnd⟩ := hW
  have hA : DataW.TrodAll enc Tryz.prog W 0 (fun _ => true) true Tryz.f4.params.toList args.toList ds p := hA0
  rw [Tryz.params4] at hA hval
  obtain ⟨v0, d0, rfl, rfl, h0⟩ := trodAll_one hA
  obtain ⟨rfl, rfl⟩ := trodVars_none hV
  have hv := okWide_struct (P := Tryz.prog) Tryz.underlying45 (hval 0 45 v0 rfl rfl)
  have hb0 : Rows.uptoBulkAll ([d0] ++ []) ≤ 1048576 := of_decide_eq_true hk
  have hb1 : Rows.uptoBulk d0 ≤ 1048576 := by
    simp only [List.append_nil, Rows.uptoBulkAll] at hb0
    omega
  have h0k := h0
  obtain ⟨vs, row, rfl, r1, r2, r3⟩ := arg_ok (hv.imp fun _ h => h.1) h0 hb1
  simp only [List.append_nil] at hW'
  refine (top_is_Attrs _ W vs row r3 r2 r1 (fun k hk => hk)).mono ?_
  rintro e W' ⟨rfl, hb⟩
  have hlt : ∀ x ∈ p, x.block < W.heap.size := fun x hx => hW'.lt x hx
  refine ⟨_, rfl, [d0], [], p, [], p, [], hW', ?_, ?_, ?_, ?_, fun h => by cases h⟩
  · exact trodAll_mk1 (shut_bool Tryz.underlying4 _)
  · have := trodAll_mk1 (trod_kept kids_ok (by simp) h0k hb hlt)
    exact this
  · exact rfl
  · exact hb.frame _
set_option maxRecDepth 100000 in
theorem liftedUpto (os : Os) (started : os.Started) (H : Type) (enc : TypeId × Value → H) (F : Stop.Interp) :
    ReturnsInHanded {} Tryz.checked os 4 .any ((Rows.OpenSpec.upto Rows.topSharedAttrsSpec).preRow enc Tryz.prog Tryz.f4 Rows.topSharedAttrsUptoRow.domain false Rows.topSharedAttrsUptoRow.laid) (((Rows.OpenSpec.upto Rows.topSharedAttrsSpec).at F).post enc Tryz.prog Tryz.f4 false true false false) := by
  obtain ⟨places, hx⟩ := reads os enc
  refine returnsInHanded_of_row (C := Tryz.checked) (s := Rows.OpenSpec.upto Rows.topSharedAttrsSpec) own started (by kernel_rfl) Tryz.func4
    (witness_row_atRef (enc := enc) (C := Tryz.checked) false (laidWorld os) wArgs rfl (wit_vars os) (wit_rest os) (wit_ok os)
      (OpenSpec.preRow_of_cond 8 hx (by kernel_rfl) (fun k hk => by cases hk; kernel_rfl) (by kernel_rfl) (laid_met os))) ?_
  intro W base args ds gs before hval hW _ hcond _ _ _ _
  exact contract H enc W base args ds gs before hval hW (hcond _ rfl)
set_option maxRecDepth 1000000 in
/-- The row. -/
theorem saidUpto : Rows.TopSharedAttrsUptoSaid :=
  OpenClaim.holds_of_cond 4 Tryz.f4 rfl rfl rfl rfl rfl rfl rfl ⟨rfl, rfl, rfl, rfl, rfl⟩ rfl rfl rfl rfl rfl named3 Tryz.func4 closed inst3 wrap3
    (fun os started H enc _ F => by rw [OpenClaim.pre_eq_preRow]; exact liftedUpto os started H enc F)
/-- No parameter wants a stand-in; the program's looks are on. -/
theorem plain3 (f : FuncId) (fn : Func) (hf : Tryz.pinned.checked.prog.funcNamed "vitrine/vitrinetop.TopSharedAttrs" = some f) (hfn : Tryz.pinned.checked.prog.funcs[f]? = some fn) :
    true = Tryz.pinned.checked.prog.looks [] ∧ ∀ (j : Nat) t, fn.params[j]? = some t → Tryz.pinned.checked.prog.wantsStandIn t = false := by
  obtain rfl : f = 4 := Option.some.inj (named3.symm.trans hf) |>.symm
  obtain rfl : fn = Tryz.f4 := (Option.some.inj (Tryz.func4.symm.trans hfn)).symm
  refine ⟨looks3, fun j t ht => ?_⟩
  rw [Tryz.params4] at ht
  obtain rfl : t = 45 := by simpa using Array.mem_of_getElem? ht
  exact stand3
set_option maxRecDepth 1000000 in
/-- The card. -/
theorem cardUpto : Rows.TopSharedAttrsUptoCardSaid :=
  Claim7.holds_tied_plain_at .later [] _ _ _ _ saidUpto (fun _ h => by cases h) wfby3 (fun _ h => by cases h) topSharedAttrsUpto_row_tie rfl ⟨rfl, rfl⟩ main3 rfl plain3 goes3
end Go.Proofs.YtomnkglnbmnmpaaGreatDoor
