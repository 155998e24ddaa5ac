/-
  DERIVED. GIVEN WITH THE SEED: THE CARDS: each row of YtknnalaemndnaaaDoorRows.lean that lists a variable, with what it lists TIED to the program's text (the seventh form; the later family's looks); each row that meets fmt, with fmt's text TOLD by the authors' own Lean function (tested against real Go, not proved from fmt's source: count such statements apart). THE CARD IS WHAT COUNTS. Prove the row's statement (the work); the ties are given (YtknnalaemndnaaaDoorTie.lean); close each card by the builder's one call (the guide's Derived/Test/ToyasCard.lean, 'card_holds'). Laid BY PROGRAM, IN A SANDBOX (cutbox-door.mjs). By AI agents, Wed Nov 11 2026. No macro, syntax, notation, axiom, sorry.
-/
import Derived.Test.YtknnalaemndnaaaDoorRows
import GoSem.ClaimSeven
namespace Go.Proofs.YtknnalaemndnaaaDoor
namespace Rows

/-- THE TIED CARD OF 'ganglionlaw01.BitsetTells'. -/
def bitsetTellsCard : Claim7 := { stood := { row := bitsetTellsRow, standIns := [], harness := (true, "0dc58b0ef8285b56429900ab97b9857cf2a6764ab34e567310369507725e29ca"), looks := false }, kinds := [], alts := [], laidByText := true, laidKinds := [.data], laidTests := true, laidLooks := .later }
def BitsetTellsCardSaid : Prop := Claim7.holds Tryd.pinned (.plain (OpenSpec.ofChange bitsetTellsSpec)) bitsetTellsCard

/-- THE TIED CARD OF 'ganglionlaw01.BitsetAlgebra'. -/
def bitsetAlgebraCard : Claim7 := { stood := { row := bitsetAlgebraRow, standIns := [], harness := (true, "0dc58b0ef8285b56429900ab97b9857cf2a6764ab34e567310369507725e29ca"), looks := false }, kinds := [], alts := [], laidByText := true, laidKinds := [.data], laidTests := true, laidLooks := .later }
def BitsetAlgebraCardSaid : Prop := Claim7.holds Tryd.pinned (.plain (OpenSpec.ofChange bitsetAlgebraSpec)) bitsetAlgebraCard

/-- THE TIED CARD OF 'ganglionlaw01.BitsetWalks'. -/
def bitsetWalksCard : Claim7 := { stood := { row := bitsetWalksRow, standIns := [], harness := (true, "0dc58b0ef8285b56429900ab97b9857cf2a6764ab34e567310369507725e29ca"), looks := false }, kinds := [], alts := [], laidByText := true, laidKinds := [.data], laidTests := true, laidLooks := .later }
def BitsetWalksCardSaid : Prop := Claim7.holds Tryd.pinned (.plain (OpenSpec.ofChange bitsetWalksSpec)) bitsetWalksCard

/-- THE SECOND FORM's CARD OF 'ganglionlaw01.BitsetTells'. -/
def bitsetTellsUptoCard : Claim7 := { stood := { row := bitsetTellsUptoRow, standIns := [], harness := (true, "0dc58b0ef8285b56429900ab97b9857cf2a6764ab34e567310369507725e29ca"), looks := false }, kinds := [], alts := [], laidByText := true, laidKinds := [.data], laidTests := true, laidLooks := .later }
def BitsetTellsUptoCardSaid : Prop := Claim7.holds Tryd.pinned (.plain (OpenSpec.upto bitsetTellsSpec)) bitsetTellsUptoCard

/-- THE SECOND FORM's CARD OF 'ganglionlaw01.BitsetAlgebra'. -/
def bitsetAlgebraUptoCard : Claim7 := { stood := { row := bitsetAlgebraUptoRow, standIns := [], harness := (true, "0dc58b0ef8285b56429900ab97b9857cf2a6764ab34e567310369507725e29ca"), looks := false }, kinds := [], alts := [], laidByText := true, laidKinds := [.data], laidTests := true, laidLooks := .later }
def BitsetAlgebraUptoCardSaid : Prop := Claim7.holds Tryd.pinned (.plain (OpenSpec.upto bitsetAlgebraSpec)) bitsetAlgebraUptoCard

/-- THE SECOND FORM's CARD OF 'ganglionlaw01.BitsetWalks'. -/
def bitsetWalksUptoCard : Claim7 := { stood := { row := bitsetWalksUptoRow, standIns := [], harness := (true, "0dc58b0ef8285b56429900ab97b9857cf2a6764ab34e567310369507725e29ca"), looks := false }, kinds := [], alts := [], laidByText := true, laidKinds := [.data], laidTests := true, laidLooks := .later }
def BitsetWalksUptoCardSaid : Prop := Claim7.holds Tryd.pinned (.plain (OpenSpec.upto bitsetWalksSpec)) bitsetWalksUptoCard
end Rows
end Go.Proofs.YtknnalaemndnaaaDoor
