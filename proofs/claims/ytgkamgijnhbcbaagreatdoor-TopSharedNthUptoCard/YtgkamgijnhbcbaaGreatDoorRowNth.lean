/- vitrinetop.TopSharedNth returns true for each argument that the row reads as data of bulk at most 1048576, and the argument reads behind the call as before it; no further condition. -/
import Derived.Test.YtgkamgijnhbcbaaGreatDoorRows
import Derived.Test.YtgkamgijnhbcbaaGreatDoorCards
import Derived.Test.YtgkamgijnhbcbaaGreatDoorTie
import Derived.Test.YtgkamgijnhbcbaaGreatDoorFactsNth
import Derived.Test.YtgkamgijnhbcbaaGreatDoorArgNth
import Derived.Test.YtgkamgijnhbcbaaGreatDoorTopNth
import Derived.WalkKit
import Derived.ProofKit
import Derived.OpenShut
import Derived.Deep.DeepHandedRow
import Derived.Deep.DeepWitnessRowRef
namespace Go.Proofs.YtgkamgijnhbcbaaGreatDoor
open Go.ChangeShapes Go.WideShapes Go.ChangeAt Go.RowKit Go.Vt Go.Proofs
set_option maxRecDepth 1000000 in
/-- What the walk gives, for every argument whose bulk is small enough. -/
theorem contract (H : Type) (enc : TypeId × Value → H) (W : World) (base : Nat) (args : Array Value) (ds gs : List (DataW H)) (before : List MemPlace)
    (hval : ∀ (j : Nat) t v, Tryz.f4.params[j]? = some t → args[j]? = some v → Value.okWide Tryz.prog W .any base t v)
    (hW : DataW.Whole enc Tryz.prog Tryz.f4.params.toList Rows.topSharedNthSpec.vars false W args.toList ds gs before) (hk : Rows.uptoSmall H (ds ++ gs) = true) :
    Calls Tryz.prog 4 args W fun e W' => ∃ v, e = .returned v ∧ Rows.topSharedNthSpec.post enc Tryz.prog Tryz.f4 false true false false W args v W' := by
  have hW' := hW
  obtain ⟨p, q, hA0, hV, rfl, hfz, hnd⟩ := hW
  have hA : DataW.TrodAll enc Tryz.prog W 0 (fun _ => true) true Tryz.f4.params.toList args.toList ds p := hA0
  rw [Tryz.params4] at hA hval
  obtain ⟨v0, d0, rfl, rfl, h0⟩ := trodAll_one hA
  obtain ⟨rfl, rfl⟩ := trodVars_none hV
  have hv := okWide_struct (P := Tryz.prog) Tryz.underlying56 (hval 0 56 v0 rfl rfl)
  have hb0 : Rows.uptoBulkAll ([d0] ++ []) ≤ 1048576 := of_decide_eq_true hk
  have hb1 : Rows.uptoBulk d0 ≤ 1048576 := by
    simp only [List.append_nil, Rows.uptoBulkAll] at hb0
    omega
  have h0k := h0
  obtain ⟨vs, row, rfl, r1, r4, r2, r3⟩ := arg_ok (hv.imp fun _ h => h.1) h0 hb1 (by simpa using hfz)
  simp only [List.append_nil] at hW'
  refine (top_is_Nth _ W vs row r3 r2 r1 r4 (fun k hk => hk)).mono ?_
  rintro e W' ⟨rfl, hb⟩
  have hlt : ∀ x ∈ p, x.block < W.heap.size := fun x hx => hW'.lt x hx
  refine ⟨_, rfl, [d0], [], p, [], p, [], hW', ?_, ?_, ?_, ?_, fun h => by cases h⟩
  · exact trodAll_mk1 (shut_bool Tryz.underlying4 _)
  · have := trodAll_mk1 (trod_kept kids_ok (by simp) h0k hb hlt)
    exact this
  · exact rfl
  · exact hb.frame _
set_option maxRecDepth 100000 in
theorem liftedUpto (os : Os) (started : os.Started) (H : Type) (enc : TypeId × Value → H) (F : Stop.Interp) :
    ReturnsInHanded {} Tryz.checked os 4 .any ((Rows.OpenSpec.upto Rows.topSharedNthSpec).preRow enc Tryz.prog Tryz.f4 Rows.topSharedNthUptoRow.domain false Rows.topSharedNthUptoRow.laid) (((Rows.OpenSpec.upto Rows.topSharedNthSpec).at F).post enc Tryz.prog Tryz.f4 false true false false) := by
  obtain ⟨places, hx⟩ := reads os enc
  refine returnsInHanded_of_row (C := Tryz.checked) (s := Rows.OpenSpec.upto Rows.topSharedNthSpec) own started (by kernel_rfl) Tryz.func4
    (witness_row_atRef (enc := enc) (C := Tryz.checked) false (laidWorld os) wArgs rfl (wit_vars os) (wit_rest os) (wit_ok os)
      (OpenSpec.preRow_of_cond 8 hx (by kernel_rfl) (fun k hk => by cases hk; kernel_rfl) (by kernel_rfl) (laid_met os))) ?_
  intro W base args ds gs before hval hW _ hcond _ _ _ _
  exact contract H enc W base args ds gs before hval hW (hcond _ rfl)
set_option maxRecDepth 1000000 in
/-- The row. -/
theorem saidUpto : Rows.TopSharedNthUptoSaid :=
  OpenClaim.holds_of_cond 4 Tryz.f4 rfl rfl rfl rfl rfl rfl rfl ⟨rfl, rfl, rfl, rfl, rfl⟩ rfl rfl rfl rfl rfl named3 Tryz.func4 closed inst3 wrap3
    (fun os started H enc _ F => by rw [OpenClaim.pre_eq_preRow]; exact liftedUpto os started H enc F)
/-- No parameter wants a stand-in; the program's looks are on. -/
theorem plain3 (f : FuncId) (fn : Func) (hf : Tryz.pinned.checked.prog.funcNamed "vitrine/vitrinetop.TopSharedNth" = some f) (hfn : Tryz.pinned.checked.prog.funcs[f]? = some fn) :
    true = Tryz.pinned.checked.prog.looks [] ∧ ∀ (j : Nat) t, fn.params[j]? = some t → Tryz.pinned.checked.prog.wantsStandIn t = false := by
  obtain rfl : f = 4 := Option.some.inj (named3.symm.trans hf) |>.symm
  obtain rfl : fn = Tryz.f4 := (Option.some.inj (Tryz.func4.symm.trans hfn)).symm
  refine ⟨looks3, fun j t ht => ?_⟩
  rw [Tryz.params4] at ht
  obtain rfl : t = 56 := by simpa using Array.mem_of_getElem? ht
  exact stand3
set_option maxRecDepth 1000000 in
/-- The card. -/
theorem cardUpto : Rows.TopSharedNthUptoCardSaid :=
  Claim7.holds_tied_plain_at .later [] _ _ _ _ saidUpto (fun _ h => by cases h) wfby3 (fun _ h => by cases h) topSharedNthUpto_row_tie rfl ⟨rfl, rfl⟩ main3 rfl plain3 goes3
end Go.Proofs.YtgkamgijnhbcbaaGreatDoor
