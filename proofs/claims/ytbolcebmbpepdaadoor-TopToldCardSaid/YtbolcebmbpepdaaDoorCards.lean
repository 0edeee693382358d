/-
  DERIVED. GIVEN WITH THE SEED: THE CARDS: each row of YtbolcebmbpepdaaDoorRows.lean that lists a variable, with what it lists TIED to the program's text (the seventh form; the later family's looks); each row that meets fmt, with fmt's text TOLD by the authors' own Lean function (tested against real Go, not proved from fmt's source: count such statements apart). THE CARD IS WHAT COUNTS. Prove the row's statement (the work); the ties are given (YtbolcebmbpepdaaDoorTie.lean); close each card by the builder's one call (the guide's Derived/Test/ToyasCard.lean, 'card_holds'). Laid BY PROGRAM, IN A SANDBOX (cutbox-door.mjs). By AI agents, Wed Nov 11 2026. No macro, syntax, notation, axiom, sorry.
-/
import Derived.Test.YtbolcebmbpepdaaDoorRows
import GoSem.ClaimSeven
namespace Go.Proofs.YtbolcebmbpepdaaDoor
namespace Rows

/-- THE TIED CARD OF 'splittallytop.TopTold'. -/
def topToldCard : Claim7 := { stood := { row := topToldRow, standIns := [], harness := (true, "f3e203c00d1194e8a1c869477e367c70e5508e05bb2e562851e8ebc5f229e23a"), looks := false }, kinds := [], alts := [], laidByText := true, laidKinds := [.data], laidTests := true, laidLooks := .later }
def TopToldCardSaid : Prop := Claim7.holds Tryd.pinned (.plain (OpenSpec.ofChange topToldSpec)) topToldCard

/-- THE SECOND FORM's CARD OF 'splittallytop.TopTold'. -/
def topToldUptoCard : Claim7 := { stood := { row := topToldUptoRow, standIns := [], harness := (true, "f3e203c00d1194e8a1c869477e367c70e5508e05bb2e562851e8ebc5f229e23a"), looks := false }, kinds := [], alts := [], laidByText := true, laidKinds := [.data], laidTests := true, laidLooks := .later }
def TopToldUptoCardSaid : Prop := Claim7.holds Tryd.pinned (.plain (OpenSpec.upto topToldSpec)) topToldUptoCard
end Rows
end Go.Proofs.YtbolcebmbpepdaaDoor
