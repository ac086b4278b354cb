/-
  DERIVED. GIVEN WITH THE SEED: THE CARDS: each row of YtomnkglnbmnmpaaGreatDoorRows.lean that lists a variable, with what it lists TIED to the program's text (the seventh form; the later family's looks); each row that meets fmt, with fmt's text TOLD by the authors' own Lean function (tested against real Go, not proved from fmt's source: count such statements apart). THE CARD IS WHAT COUNTS. Prove the row's statement (the work); the ties are given (YtomnkglnbmnmpaaGreatDoorTie.lean); close each card by the builder's one call (the guide's Derived/Test/ToyasCard.lean, 'card_holds'). Laid BY PROGRAM, IN A SANDBOX (cutbox-door.mjs). By AI agents, Wed Nov 11 2026. No macro, syntax, notation, axiom, sorry.
-/
import Derived.Test.YtomnkglnbmnmpaaGreatDoorRows
import GoSem.ClaimSeven
namespace Go.Proofs.YtomnkglnbmnmpaaGreatDoor
namespace Rows

/-- THE TIED CARD OF 'vitrinetop.TopSharedMutate'. -/
def topSharedMutateCard : Claim7 := { stood := { row := topSharedMutateRow, standIns := [], harness := (true, "14e236d15c84e22a428ffcb44cc9283b4503f921f961208ebc97c1639683537b"), looks := true }, kinds := [], alts := [], laidByText := true, laidKinds := [.data, .data, .data, .data, .sentinel, .sentinel, .listed, .data, .pinned], laidTests := true, laidLooks := .later }
def TopSharedMutateCardSaid : Prop := Claim7.holds Tryz.pinned (.plain (OpenSpec.ofChange topSharedMutateSpec)) topSharedMutateCard

/-- THE TIED CARD OF 'vitrinetop.TopSharedAttrs'. -/
def topSharedAttrsCard : Claim7 := { stood := { row := topSharedAttrsRow, standIns := [], harness := (true, "14e236d15c84e22a428ffcb44cc9283b4503f921f961208ebc97c1639683537b"), looks := true }, kinds := [], alts := [], laidByText := true, laidKinds := [.data, .data, .data, .data, .sentinel, .sentinel, .listed, .data, .pinned], laidTests := true, laidLooks := .later }
def TopSharedAttrsCardSaid : Prop := Claim7.holds Tryz.pinned (.plain (OpenSpec.ofChange topSharedAttrsSpec)) topSharedAttrsCard

/-- THE TIED CARD OF 'vitrinetop.TopSharedOrder'. -/
def topSharedOrderCard : Claim7 := { stood := { row := topSharedOrderRow, standIns := [], harness := (true, "14e236d15c84e22a428ffcb44cc9283b4503f921f961208ebc97c1639683537b"), looks := true }, kinds := [], alts := [], laidByText := true, laidKinds := [.data, .data, .data, .data, .sentinel, .sentinel, .listed, .data, .pinned], laidTests := true, laidLooks := .later }
def TopSharedOrderCardSaid : Prop := Claim7.holds Tryz.pinned (.plain (OpenSpec.ofChange topSharedOrderSpec)) topSharedOrderCard

/-- THE TIED CARD OF 'vitrinetop.TopSharedLink'. -/
def topSharedLinkCard : Claim7 := { stood := { row := topSharedLinkRow, standIns := [], harness := (true, "14e236d15c84e22a428ffcb44cc9283b4503f921f961208ebc97c1639683537b"), looks := true }, kinds := [], alts := [], laidByText := true, laidKinds := [.data, .data, .data, .data, .sentinel, .sentinel, .listed, .data, .pinned], laidTests := true, laidLooks := .later }
def TopSharedLinkCardSaid : Prop := Claim7.holds Tryz.pinned (.plain (OpenSpec.ofChange topSharedLinkSpec)) topSharedLinkCard

/-- THE SECOND FORM's CARD OF 'vitrinetop.TopSharedMutate'. -/
def topSharedMutateUptoCard : Claim7 := { stood := { row := topSharedMutateUptoRow, standIns := [], harness := (true, "14e236d15c84e22a428ffcb44cc9283b4503f921f961208ebc97c1639683537b"), looks := true }, kinds := [], alts := [], laidByText := true, laidKinds := [.data, .data, .data, .data, .sentinel, .sentinel, .listed, .data, .pinned], laidTests := true, laidLooks := .later }
def TopSharedMutateUptoCardSaid : Prop := Claim7.holds Tryz.pinned (.plain (OpenSpec.upto topSharedMutateSpec)) topSharedMutateUptoCard

/-- THE SECOND FORM's CARD OF 'vitrinetop.TopSharedAttrs'. -/
def topSharedAttrsUptoCard : Claim7 := { stood := { row := topSharedAttrsUptoRow, standIns := [], harness := (true, "14e236d15c84e22a428ffcb44cc9283b4503f921f961208ebc97c1639683537b"), looks := true }, kinds := [], alts := [], laidByText := true, laidKinds := [.data, .data, .data, .data, .sentinel, .sentinel, .listed, .data, .pinned], laidTests := true, laidLooks := .later }
def TopSharedAttrsUptoCardSaid : Prop := Claim7.holds Tryz.pinned (.plain (OpenSpec.upto topSharedAttrsSpec)) topSharedAttrsUptoCard

/-- THE SECOND FORM's CARD OF 'vitrinetop.TopSharedOrder'. -/
def topSharedOrderUptoCard : Claim7 := { stood := { row := topSharedOrderUptoRow, standIns := [], harness := (true, "14e236d15c84e22a428ffcb44cc9283b4503f921f961208ebc97c1639683537b"), looks := true }, kinds := [], alts := [], laidByText := true, laidKinds := [.data, .data, .data, .data, .sentinel, .sentinel, .listed, .data, .pinned], laidTests := true, laidLooks := .later }
def TopSharedOrderUptoCardSaid : Prop := Claim7.holds Tryz.pinned (.plain (OpenSpec.upto topSharedOrderSpec)) topSharedOrderUptoCard

/-- THE SECOND FORM's CARD OF 'vitrinetop.TopSharedLink'. -/
def topSharedLinkUptoCard : Claim7 := { stood := { row := topSharedLinkUptoRow, standIns := [], harness := (true, "14e236d15c84e22a428ffcb44cc9283b4503f921f961208ebc97c1639683537b"), looks := true }, kinds := [], alts := [], laidByText := true, laidKinds := [.data, .data, .data, .data, .sentinel, .sentinel, .listed, .data, .pinned], laidTests := true, laidLooks := .later }
def TopSharedLinkUptoCardSaid : Prop := Claim7.holds Tryz.pinned (.plain (OpenSpec.upto topSharedLinkSpec)) topSharedLinkUptoCard
end Rows
end Go.Proofs.YtomnkglnbmnmpaaGreatDoor
