/-
  DERIVED. GIVEN WITH THE SEED: THE CARDS: each row of YtgkamgijnhbcbaaGreatDoorRows.lean that lists a variable, with what it lists TIED to the program's text (the seventh form; the later family's looks); each row that meets fmt, with fmt's text TOLD by the authors' own Lean function (tested against real Go, not proved from fmt's source: count such statements apart). THE CARD IS WHAT COUNTS. Prove the row's statement (the work); the ties are given (YtgkamgijnhbcbaaGreatDoorTie.lean); close each card by the builder's one call (the guide's Derived/Test/ToyasCard.lean, 'card_holds'). Laid BY PROGRAM, IN A SANDBOX (cutbox-door.mjs). By AI agents, Wed Nov 11 2026. No macro, syntax, notation, axiom, sorry.
-/
import Derived.Test.YtgkamgijnhbcbaaGreatDoorRows
import GoSem.ClaimSeven
namespace Go.Proofs.YtgkamgijnhbcbaaGreatDoor
namespace Rows

/-- THE TIED CARD OF 'vitrinetop.TopSharedHas'. -/
def topSharedHasCard : Claim7 := { stood := { row := topSharedHasRow, standIns := [], harness := (true, "0386319a556cf38456c8dd80628294d5dd9afc9b42dd96b32a521e772d19f82c"), looks := true }, kinds := [], alts := [], laidByText := true, laidKinds := [.data, .data, .data, .data, .sentinel, .sentinel, .listed, .data, .pinned], laidTests := true, laidLooks := .later }
def TopSharedHasCardSaid : Prop := Claim7.holds Tryz.pinned (.plain (OpenSpec.ofChange topSharedHasSpec)) topSharedHasCard

/-- THE TIED CARD OF 'vitrinetop.TopSharedNth'. -/
def topSharedNthCard : Claim7 := { stood := { row := topSharedNthRow, standIns := [], harness := (true, "0386319a556cf38456c8dd80628294d5dd9afc9b42dd96b32a521e772d19f82c"), looks := true }, kinds := [], alts := [], laidByText := true, laidKinds := [.data, .data, .data, .data, .sentinel, .sentinel, .listed, .data, .pinned], laidTests := true, laidLooks := .later }
def TopSharedNthCardSaid : Prop := Claim7.holds Tryz.pinned (.plain (OpenSpec.ofChange topSharedNthSpec)) topSharedNthCard

/-- THE TIED CARD OF 'vitrinetop.TopSharedComb'. -/
def topSharedCombCard : Claim7 := { stood := { row := topSharedCombRow, standIns := [], harness := (true, "0386319a556cf38456c8dd80628294d5dd9afc9b42dd96b32a521e772d19f82c"), looks := true }, kinds := [], alts := [], laidByText := true, laidKinds := [.data, .data, .data, .data, .sentinel, .sentinel, .listed, .data, .pinned], laidTests := true, laidLooks := .later }
def TopSharedCombCardSaid : Prop := Claim7.holds Tryz.pinned (.plain (OpenSpec.ofChange topSharedCombSpec)) topSharedCombCard

/-- THE SECOND FORM's CARD OF 'vitrinetop.TopSharedHas'. -/
def topSharedHasUptoCard : Claim7 := { stood := { row := topSharedHasUptoRow, standIns := [], harness := (true, "0386319a556cf38456c8dd80628294d5dd9afc9b42dd96b32a521e772d19f82c"), looks := true }, kinds := [], alts := [], laidByText := true, laidKinds := [.data, .data, .data, .data, .sentinel, .sentinel, .listed, .data, .pinned], laidTests := true, laidLooks := .later }
def TopSharedHasUptoCardSaid : Prop := Claim7.holds Tryz.pinned (.plain (OpenSpec.upto topSharedHasSpec)) topSharedHasUptoCard

/-- THE SECOND FORM's CARD OF 'vitrinetop.TopSharedNth'. -/
def topSharedNthUptoCard : Claim7 := { stood := { row := topSharedNthUptoRow, standIns := [], harness := (true, "0386319a556cf38456c8dd80628294d5dd9afc9b42dd96b32a521e772d19f82c"), looks := true }, kinds := [], alts := [], laidByText := true, laidKinds := [.data, .data, .data, .data, .sentinel, .sentinel, .listed, .data, .pinned], laidTests := true, laidLooks := .later }
def TopSharedNthUptoCardSaid : Prop := Claim7.holds Tryz.pinned (.plain (OpenSpec.upto topSharedNthSpec)) topSharedNthUptoCard

/-- THE SECOND FORM's CARD OF 'vitrinetop.TopSharedComb'. -/
def topSharedCombUptoCard : Claim7 := { stood := { row := topSharedCombUptoRow, standIns := [], harness := (true, "0386319a556cf38456c8dd80628294d5dd9afc9b42dd96b32a521e772d19f82c"), looks := true }, kinds := [], alts := [], laidByText := true, laidKinds := [.data, .data, .data, .data, .sentinel, .sentinel, .listed, .data, .pinned], laidTests := true, laidLooks := .later }
def TopSharedCombUptoCardSaid : Prop := Claim7.holds Tryz.pinned (.plain (OpenSpec.upto topSharedCombSpec)) topSharedCombUptoCard
end Rows
end Go.Proofs.YtgkamgijnhbcbaaGreatDoor
