/-
  DERIVED. GIVEN WITH THE SEED: THE CARDS: each row of YtcmkcgegdclllaaDoorRows.lean that lists a variable, with what it lists TIED to the program's text (the seventh form; the later family's looks); each row that meets fmt, with fmt's text TOLD by the authors' own Lean function (tested against real Go, not proved from fmt's source: count such statements apart). THE CARD IS WHAT COUNTS. Prove the row's statement (the work); the ties are given (YtcmkcgegdclllaaDoorTie.lean); close each card by the builder's one call (the guide's Derived/Test/ToyasCard.lean, 'card_holds'). Laid BY PROGRAM, IN A SANDBOX (cutbox-door.mjs). By AI agents, Wed Nov 11 2026. No macro, syntax, notation, axiom, sorry.
-/
import Derived.Test.YtcmkcgegdclllaaDoorRows
import GoSem.ClaimSeven
namespace Go.Proofs.YtcmkcgegdclllaaDoor
namespace Rows

/-- THE TIED CARD OF 'splittallylaw.LabMembers'. -/
def labMembersCard : Claim7 := { stood := { row := labMembersRow, standIns := [], harness := (true, "2d2a7f119cf991db4553f884fcf5d935926a4640b876682b3960d578e89272d8"), looks := true }, kinds := [], alts := [], laidByText := true, laidKinds := [.data, .data], laidTests := true, laidLooks := .later }
def LabMembersCardSaid : Prop := Claim7.holds Tryd.pinned (.plain (OpenSpec.ofChange labMembersSpec)) labMembersCard

/-- THE TIED CARD OF 'splittallylaw.DeskShows'. -/
def deskShowsCard : Claim7 := { stood := { row := deskShowsRow, standIns := [], harness := (true, "2d2a7f119cf991db4553f884fcf5d935926a4640b876682b3960d578e89272d8"), looks := true }, kinds := [], alts := [], laidByText := true, laidKinds := [.data, .data, .data, .widerDeep], laidTests := true, laidLooks := .later }
def DeskShowsCardSaid : Prop := Claim7.holds Tryd.pinned (.plain (OpenSpec.ofChange deskShowsSpec)) deskShowsCard

/-- THE TIED CARD OF 'splittallylaw.DeskReads'. -/
def deskReadsCard : Claim7 := { stood := { row := deskReadsRow, standIns := [], harness := (true, "2d2a7f119cf991db4553f884fcf5d935926a4640b876682b3960d578e89272d8"), looks := true }, kinds := [], alts := [], laidByText := true, laidKinds := [.data, .data, .data, .data, .sentinel, .sentinel, .widerDeep, .pinned], laidTests := true, laidLooks := .later }
def DeskReadsCardSaid : Prop := Claim7.holds Tryd.pinned (.plain (OpenSpec.ofChange deskReadsSpec)) deskReadsCard

/-- THE SECOND FORM's CARD OF 'splittallylaw.LabMembers'. -/
def labMembersUptoCard : Claim7 := { stood := { row := labMembersUptoRow, standIns := [], harness := (true, "2d2a7f119cf991db4553f884fcf5d935926a4640b876682b3960d578e89272d8"), looks := true }, kinds := [], alts := [], laidByText := true, laidKinds := [.data, .data], laidTests := true, laidLooks := .later }
def LabMembersUptoCardSaid : Prop := Claim7.holds Tryd.pinned (.plain (OpenSpec.upto labMembersSpec)) labMembersUptoCard

/-- THE SECOND FORM's CARD OF 'splittallylaw.DeskShows'. -/
def deskShowsUptoCard : Claim7 := { stood := { row := deskShowsUptoRow, standIns := [], harness := (true, "2d2a7f119cf991db4553f884fcf5d935926a4640b876682b3960d578e89272d8"), looks := true }, kinds := [], alts := [], laidByText := true, laidKinds := [.data, .data, .data, .widerDeep], laidTests := true, laidLooks := .later }
def DeskShowsUptoCardSaid : Prop := Claim7.holds Tryd.pinned (.plain (OpenSpec.upto deskShowsSpec)) deskShowsUptoCard

/-- THE SECOND FORM's CARD OF 'splittallylaw.DeskReads'. -/
def deskReadsUptoCard : Claim7 := { stood := { row := deskReadsUptoRow, standIns := [], harness := (true, "2d2a7f119cf991db4553f884fcf5d935926a4640b876682b3960d578e89272d8"), looks := true }, kinds := [], alts := [], laidByText := true, laidKinds := [.data, .data, .data, .data, .sentinel, .sentinel, .widerDeep, .pinned], laidTests := true, laidLooks := .later }
def DeskReadsUptoCardSaid : Prop := Claim7.holds Tryd.pinned (.plain (OpenSpec.upto deskReadsSpec)) deskReadsUptoCard
end Rows
end Go.Proofs.YtcmkcgegdclllaaDoor
