/-
  DERIVED. GIVEN WITH THE SEED: THE CARDS: each row of YtaibjehembkolaaGreatDoorRows.lean that lists a variable, with what it lists TIED to the program's text (the seventh form; the later family's looks); each row that meets fmt, with fmt's text TOLD by the authors' own Lean function (tested against real Go, not proved from fmt's source: count such statements apart). THE CARD IS WHAT COUNTS. Prove the row's statement (the work); the ties are given (YtaibjehembkolaaGreatDoorTie.lean); close each card by the builder's one call (the guide's Derived/Test/ToyasCard.lean, 'card_holds'). Laid BY PROGRAM, IN A SANDBOX (cutbox-door.mjs). By AI agents, Wed Nov 11 2026. No macro, syntax, notation, axiom, sorry.
-/
import Derived.Test.YtaibjehembkolaaGreatDoorRows
import GoSem.ClaimSeven
namespace Go.Proofs.YtaibjehembkolaaGreatDoor
namespace Rows

/-- THE TIED CARD OF 'vitrinetop.TopSharedTree'. -/
def topSharedTreeCard : Claim7 := { stood := { row := topSharedTreeRow, standIns := [], harness := (true, "0c0c218ae5b6c6d1fa97168afe57f5cb0046c7951ca024721963e0fa8e871205"), looks := true }, kinds := [], alts := [], laidByText := true, laidKinds := [.data, .data, .data, .data, .sentinel, .sentinel, .listed, .data, .pinned], laidTests := true, laidLooks := .later }
def TopSharedTreeCardSaid : Prop := Claim7.holds Tryz.pinned (.plain (OpenSpec.ofChange topSharedTreeSpec)) topSharedTreeCard

/-- THE SECOND FORM's CARD OF 'vitrinetop.TopSharedTree'. -/
def topSharedTreeUptoCard : Claim7 := { stood := { row := topSharedTreeUptoRow, standIns := [], harness := (true, "0c0c218ae5b6c6d1fa97168afe57f5cb0046c7951ca024721963e0fa8e871205"), looks := true }, kinds := [], alts := [], laidByText := true, laidKinds := [.data, .data, .data, .data, .sentinel, .sentinel, .listed, .data, .pinned], laidTests := true, laidLooks := .later }
def TopSharedTreeUptoCardSaid : Prop := Claim7.holds Tryz.pinned (.plain (OpenSpec.upto topSharedTreeSpec)) topSharedTreeUptoCard
end Rows
end Go.Proofs.YtaibjehembkolaaGreatDoor
