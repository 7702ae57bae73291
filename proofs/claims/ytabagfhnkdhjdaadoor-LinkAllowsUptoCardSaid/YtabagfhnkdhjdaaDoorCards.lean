/-
  DERIVED. GIVEN WITH THE SEED: THE CARDS: each row of YtabagfhnkdhjdaaDoorRows.lean that lists a variable, with what it lists TIED to the program's text (the seventh form; the later family's looks); each row that meets fmt, with fmt's text TOLD by the authors' own Lean function (tested against real Go, not proved from fmt's source: count such statements apart). THE CARD IS WHAT COUNTS. Prove the row's statement (the work); the ties are given (YtabagfhnkdhjdaaDoorTie.lean); close each card by the builder's one call (the guide's Derived/Test/ToyasCard.lean, 'card_holds'). Laid BY PROGRAM, IN A SANDBOX (cutbox-door.mjs). By AI agents, Wed Nov 11 2026. No macro, syntax, notation, axiom, sorry.
-/
import Derived.Test.YtabagfhnkdhjdaaDoorRows
import GoSem.ClaimSeven
namespace Go.Proofs.YtabagfhnkdhjdaaDoor
namespace Rows

/-- THE TIED CARD OF 'sievelaw12.LinkAllows'. -/
def linkAllowsCard : Claim7 := { stood := { row := linkAllowsRow, standIns := [], harness := (true, "e525a5f58b11bfc6ef8bb52b8285066449ac560e7c6e632599d0d773523af34c"), looks := false }, kinds := [], alts := [], laidByText := true, laidKinds := [.data, .data, .pinned], laidTests := true, laidLooks := .later }
def LinkAllowsCardSaid : Prop := Claim7.holds Tryd.pinned (.plain (OpenSpec.ofChange linkAllowsSpec)) linkAllowsCard

/-- THE TIED CARD OF 'sievelaw12.LinkStays'. -/
def linkStaysCard : Claim7 := { stood := { row := linkStaysRow, standIns := [], harness := (true, "e525a5f58b11bfc6ef8bb52b8285066449ac560e7c6e632599d0d773523af34c"), looks := false }, kinds := [], alts := [], laidByText := true, laidKinds := [.data, .data, .pinned], laidTests := true, laidLooks := .later }
def LinkStaysCardSaid : Prop := Claim7.holds Tryd.pinned (.plain (OpenSpec.ofChange linkStaysSpec)) linkStaysCard

/-- THE SECOND FORM's CARD OF 'sievelaw12.LinkAllows'. -/
def linkAllowsUptoCard : Claim7 := { stood := { row := linkAllowsUptoRow, standIns := [], harness := (true, "e525a5f58b11bfc6ef8bb52b8285066449ac560e7c6e632599d0d773523af34c"), looks := false }, kinds := [], alts := [], laidByText := true, laidKinds := [.data, .data, .pinned], laidTests := true, laidLooks := .later }
def LinkAllowsUptoCardSaid : Prop := Claim7.holds Tryd.pinned (.plain (OpenSpec.upto linkAllowsSpec)) linkAllowsUptoCard

/-- THE SECOND FORM's CARD OF 'sievelaw12.LinkStays'. -/
def linkStaysUptoCard : Claim7 := { stood := { row := linkStaysUptoRow, standIns := [], harness := (true, "e525a5f58b11bfc6ef8bb52b8285066449ac560e7c6e632599d0d773523af34c"), looks := false }, kinds := [], alts := [], laidByText := true, laidKinds := [.data, .data, .pinned], laidTests := true, laidLooks := .later }
def LinkStaysUptoCardSaid : Prop := Claim7.holds Tryd.pinned (.plain (OpenSpec.upto linkStaysSpec)) linkStaysUptoCard
end Rows
end Go.Proofs.YtabagfhnkdhjdaaDoor
