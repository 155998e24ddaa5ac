/-
  DERIVED. GIVEN WITH THE SEED: THE CARDS: each row of YtokgcjhlmohjgaaDoorRows.lean that lists a variable, with what it lists TIED to the program's text (the seventh form; the later family's looks); each row that meets fmt, with fmt's text TOLD by the authors' own Lean function (tested against real Go, not proved from fmt's source: count such statements apart). THE CARD IS WHAT COUNTS. Prove the row's statement (the work); the ties are given (YtokgcjhlmohjgaaDoorTie.lean); close each card by the builder's one call (the guide's Derived/Test/ToyasCard.lean, 'card_holds'). Laid BY PROGRAM, IN A SANDBOX (cutbox-door.mjs). By AI agents, Wed Nov 11 2026. No macro, syntax, notation, axiom, sorry.
-/
import Derived.Test.YtokgcjhlmohjgaaDoorRows
import GoSem.ClaimSeven
namespace Go.Proofs.YtokgcjhlmohjgaaDoor
namespace Rows

/-- THE TIED CARD OF 'ganglionlaw06.TagTells'. -/
def tagTellsCard : Claim7 := { stood := { row := tagTellsRow, standIns := [], harness := (true, "9c4d150fb0a632ad418d184f69c22cd1f52f4d44f22f03040addc23649f6cd75"), looks := false }, kinds := [], alts := [], laidByText := true, laidKinds := [.data, .data, .pinned], laidTests := true, laidLooks := .later }
def TagTellsCardSaid : Prop := Claim7.holds Tryd.pinned (.plain (OpenSpec.ofChange tagTellsSpec)) tagTellsCard

/-- THE TIED CARD OF 'ganglionlaw06.TagBack'. -/
def tagBackCard : Claim7 := { stood := { row := tagBackRow, standIns := [], harness := (true, "9c4d150fb0a632ad418d184f69c22cd1f52f4d44f22f03040addc23649f6cd75"), looks := false }, kinds := [], alts := [], laidByText := true, laidKinds := [.data, .data, .pinned], laidTests := true, laidLooks := .later }
def TagBackCardSaid : Prop := Claim7.holds Tryd.pinned (.plain (OpenSpec.ofChange tagBackSpec)) tagBackCard

/-- THE TIED CARD OF 'gangliontop.TopTagged'. -/
def topTaggedCard : Claim7 := { stood := { row := topTaggedRow, standIns := [], harness := (true, "9c4d150fb0a632ad418d184f69c22cd1f52f4d44f22f03040addc23649f6cd75"), looks := false }, kinds := [], alts := [], laidByText := true, laidKinds := [.data, .data, .pinned], laidTests := true, laidLooks := .later }
def TopTaggedCardSaid : Prop := Claim7.holds Tryd.pinned (.plain (OpenSpec.ofChange topTaggedSpec)) topTaggedCard

/-- THE SECOND FORM's CARD OF 'ganglionlaw06.TagTells'. -/
def tagTellsUptoCard : Claim7 := { stood := { row := tagTellsUptoRow, standIns := [], harness := (true, "9c4d150fb0a632ad418d184f69c22cd1f52f4d44f22f03040addc23649f6cd75"), looks := false }, kinds := [], alts := [], laidByText := true, laidKinds := [.data, .data, .pinned], laidTests := true, laidLooks := .later }
def TagTellsUptoCardSaid : Prop := Claim7.holds Tryd.pinned (.plain (OpenSpec.upto tagTellsSpec)) tagTellsUptoCard

/-- THE SECOND FORM's CARD OF 'ganglionlaw06.TagBack'. -/
def tagBackUptoCard : Claim7 := { stood := { row := tagBackUptoRow, standIns := [], harness := (true, "9c4d150fb0a632ad418d184f69c22cd1f52f4d44f22f03040addc23649f6cd75"), looks := false }, kinds := [], alts := [], laidByText := true, laidKinds := [.data, .data, .pinned], laidTests := true, laidLooks := .later }
def TagBackUptoCardSaid : Prop := Claim7.holds Tryd.pinned (.plain (OpenSpec.upto tagBackSpec)) tagBackUptoCard

/-- THE SECOND FORM's CARD OF 'gangliontop.TopTagged'. -/
def topTaggedUptoCard : Claim7 := { stood := { row := topTaggedUptoRow, standIns := [], harness := (true, "9c4d150fb0a632ad418d184f69c22cd1f52f4d44f22f03040addc23649f6cd75"), looks := false }, kinds := [], alts := [], laidByText := true, laidKinds := [.data, .data, .pinned], laidTests := true, laidLooks := .later }
def TopTaggedUptoCardSaid : Prop := Claim7.holds Tryd.pinned (.plain (OpenSpec.upto topTaggedSpec)) topTaggedUptoCard
end Rows
end Go.Proofs.YtokgcjhlmohjgaaDoor
