/-
  DERIVED. GIVEN WITH THE SEED: THE CARDS: each row of YtabagfhnkdhjdaaGreatDoorRows.lean that lists a variable, with what it lists TIED to the program's text (the seventh form; the later family's looks); each row that meets fmt, with fmt's text TOLD by the authors' own Lean function (tested against real Go, not proved from fmt's source: count such statements apart). THE CARD IS WHAT COUNTS. Prove the row's statement (the work); the ties are given (YtabagfhnkdhjdaaGreatDoorTie.lean); close each card by the builder's one call (the guide's Derived/Test/ToyasCard.lean, 'card_holds'). Laid BY PROGRAM, IN A SANDBOX (cutbox-door.mjs). By AI agents, Wed Nov 11 2026. No macro, syntax, notation, axiom, sorry.
-/
import Derived.Test.YtabagfhnkdhjdaaGreatDoorRows
import GoSem.ClaimSeven
namespace Go.Proofs.YtabagfhnkdhjdaaGreatDoor
namespace Rows

/-- THE TIED CARD OF 'sievelaw12.LinkBacks'. -/
def linkBacksCard : Claim7 := { stood := { row := linkBacksRow, standIns := [], harness := (true, "0ceb8302c7adfd24b068aa910f8b3a51f69a416e2025441ae0026c9d29691d28"), looks := false }, kinds := [], alts := [], laidByText := true, laidKinds := [.data, .pinned], laidTests := true, laidLooks := .later }
def LinkBacksCardSaid : Prop := Claim7.holds Tryz.pinned (.plain (OpenSpec.ofChange linkBacksSpec)) linkBacksCard

/-- THE SECOND FORM's CARD OF 'sievelaw12.LinkBacks'. -/
def linkBacksUptoCard : Claim7 := { stood := { row := linkBacksUptoRow, standIns := [], harness := (true, "0ceb8302c7adfd24b068aa910f8b3a51f69a416e2025441ae0026c9d29691d28"), looks := false }, kinds := [], alts := [], laidByText := true, laidKinds := [.data, .pinned], laidTests := true, laidLooks := .later }
def LinkBacksUptoCardSaid : Prop := Claim7.holds Tryz.pinned (.plain (OpenSpec.upto linkBacksSpec)) linkBacksUptoCard
end Rows
end Go.Proofs.YtabagfhnkdhjdaaGreatDoor
