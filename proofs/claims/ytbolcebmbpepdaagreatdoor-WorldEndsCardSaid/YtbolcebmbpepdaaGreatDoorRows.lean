/-
  NARROWER THAN 'FOR EVERY INPUT', by the rows' own cells (each row's printed sentence says how): WorldPlays: laid · WorldEnds: laid · TopFirst: laid · TopApart: laid.
  DERIVED. THE GIVEN ROWS OF THIS SEAT. 4 by the template 'for every input the law returns true; each argument reads behind the call as it read before'; 0 by the template 'total and deterministic' (their statements: YtbolcebmbpepdaaGreatDoorTotals.lean).
  GIVEN WITH THE SEED: the statements are not yours to turn. If you find one false, say at which input.
  Laid BY PROGRAM, IN A SANDBOX (cutbox-rows.mjs): the forced cells as the released guide's own fill.sh prints them over the translation 2c44f93da81b9f28… (all of the seat's roots in one cut). By AI agents, Wed Nov 11 2026. No macro, syntax, notation, axiom, sorry.
-/
import Derived.Test.YtbolcebmbpepdaaGreatDoorChecked
import GoSem.Claim
import GoSem.ClaimJoined
import GoSem.ClaimMapViews
import Derived.JoinedTies
import Derived.KernelRfl
namespace Go.Proofs.YtbolcebmbpepdaaGreatDoor
/- THE CELL 'sum', in the pinned program and in every row, IS THE sha256 OF THE DUMP (.gsa) THAT YtbolcebmbpepdaaGreatDoorProg.lean LOADS. Nothing in Lean hashes anything: it is a label: what it is worth is what the hold of that sum in a sandbox is worth. -/
noncomputable def Tryz.pinned : Pinned := { name := "ytbolcebmbpepdaagreatdoor", sum := "2c44f93da81b9f289605b0d1335ef3445a90e6eca770bb44963bd99d1d875724", checked := Tryz.checked }
namespace Rows
def none {H : Type} : Left H := { results := [], args := [] }

/- WHAT THE LISTED PACKAGE-LEVEL VARIABLES READ AS WHEN THE CALL BEGINS. Each datum BY PROGRAM (the guide's laid-datum.mjs) off the statement by which the dump's own 'gosem.cut.vars' lays the variable. In a bare row this is a premise. The card (YtbolcebmbpepdaaGreatDoorCards.lean) ties it to the program's text. -/
def laid_splittally_world_orders {H : Type} : DataW H := .agg [.lit (.int .i64 2), .lit (.int .i64 3), .lit (.int .i64 4), .lit (.int .i64 5), .lit (.int .i64 6)]

/-- 'splittallylaw.WorldPlays': WHATEVER THE INPUT: true; the input reads as it did. -/
def worldPlaysSpec : ChangeSpec := { name := "worldPlays", fn := fun _ => fun
  | [d1, d2] => { results := [.lit (.bool true)], args := [d1, d2] }
  | _ => none }
def worldPlaysRow : OpenClaim := { program := "ytbolcebmbpepdaagreatdoor", sum := "2c44f93da81b9f289605b0d1335ef3445a90e6eca770bb44963bd99d1d875724", func := "splittally/splittallylaw.WorldPlays", spec := "worldPlays", inPlace := ["slices.overlaps[splittally/api.Entry]"], unfollowed := true, recurses := true, named := ["splittally/world.orders"], plainKeys := false, apart := false, laid := [("splittally/world.orders", laid_splittally_world_orders)] }
def WorldPlaysSaid : Prop := worldPlaysRow.holds Tryz.pinned (OpenSpec.ofChange worldPlaysSpec)

/-- ITS FALSE NEIGHBOUR: 'it returns false'. Refute it at one input. -/
def worldPlaysWrong : ChangeSpec := { name := "worldPlays", fn := fun _ => fun
  | [d1, d2] => { results := [.lit (.bool false)], args := [d1, d2] }
  | _ => none }
def WorldPlaysWrongFalsely : Prop := worldPlaysRow.holds Tryz.pinned (OpenSpec.ofChange worldPlaysWrong)

/-- 'splittallylaw.WorldEnds': WHATEVER THE INPUT: true; the input reads as it did. -/
def worldEndsSpec : ChangeSpec := { name := "worldEnds", fn := fun _ => fun
  | [d1, d2] => { results := [.lit (.bool true)], args := [d1, d2] }
  | _ => none }
def worldEndsRow : OpenClaim := { program := "ytbolcebmbpepdaagreatdoor", sum := "2c44f93da81b9f289605b0d1335ef3445a90e6eca770bb44963bd99d1d875724", func := "splittally/splittallylaw.WorldEnds", spec := "worldEnds", inPlace := ["slices.overlaps[splittally/api.Entry]"], unfollowed := true, recurses := true, named := ["splittally/world.orders"], plainKeys := false, apart := false, laid := [("splittally/world.orders", laid_splittally_world_orders)] }
def WorldEndsSaid : Prop := worldEndsRow.holds Tryz.pinned (OpenSpec.ofChange worldEndsSpec)

/-- ITS FALSE NEIGHBOUR: 'it returns false'. Refute it at one input. -/
def worldEndsWrong : ChangeSpec := { name := "worldEnds", fn := fun _ => fun
  | [d1, d2] => { results := [.lit (.bool false)], args := [d1, d2] }
  | _ => none }
def WorldEndsWrongFalsely : Prop := worldEndsRow.holds Tryz.pinned (OpenSpec.ofChange worldEndsWrong)

/-- 'splittallytop.TopFirst': WHATEVER THE INPUT: true; the input reads as it did. -/
def topFirstSpec : ChangeSpec := { name := "topFirst", fn := fun _ => fun
  | [d1, d2, d3, d4, d5, d6] => { results := [.lit (.bool true)], args := [d1, d2, d3, d4, d5, d6] }
  | _ => none }
def topFirstRow : OpenClaim := { program := "ytbolcebmbpepdaagreatdoor", sum := "2c44f93da81b9f289605b0d1335ef3445a90e6eca770bb44963bd99d1d875724", func := "splittally/splittallytop.TopFirst", spec := "topFirst", inPlace := ["slices.overlaps[splittally/api.Entry]"], unfollowed := true, recurses := true, named := ["splittally/world.orders"], plainKeys := false, apart := false, laid := [("splittally/world.orders", laid_splittally_world_orders)] }
def TopFirstSaid : Prop := topFirstRow.holds Tryz.pinned (OpenSpec.ofChange topFirstSpec)

/-- ITS FALSE NEIGHBOUR: 'it returns false'. Refute it at one input. -/
def topFirstWrong : ChangeSpec := { name := "topFirst", fn := fun _ => fun
  | [d1, d2, d3, d4, d5, d6] => { results := [.lit (.bool false)], args := [d1, d2, d3, d4, d5, d6] }
  | _ => none }
def TopFirstWrongFalsely : Prop := topFirstRow.holds Tryz.pinned (OpenSpec.ofChange topFirstWrong)

/-- 'splittallytop.TopApart': WHATEVER THE INPUT: true; the input reads as it did. -/
def topApartSpec : ChangeSpec := { name := "topApart", fn := fun _ => fun
  | [d1, d2, d3, d4, d5, d6, d7] => { results := [.lit (.bool true)], args := [d1, d2, d3, d4, d5, d6, d7] }
  | _ => none }
def topApartRow : OpenClaim := { program := "ytbolcebmbpepdaagreatdoor", sum := "2c44f93da81b9f289605b0d1335ef3445a90e6eca770bb44963bd99d1d875724", func := "splittally/splittallytop.TopApart", spec := "topApart", inPlace := ["slices.overlaps[splittally/api.Entry]"], unfollowed := true, recurses := true, named := ["splittally/world.orders"], plainKeys := false, apart := false, laid := [("splittally/world.orders", laid_splittally_world_orders)] }
def TopApartSaid : Prop := topApartRow.holds Tryz.pinned (OpenSpec.ofChange topApartSpec)

/-- ITS FALSE NEIGHBOUR: 'it returns false'. Refute it at one input. -/
def topApartWrong : ChangeSpec := { name := "topApart", fn := fun _ => fun
  | [d1, d2, d3, d4, d5, d6, d7] => { results := [.lit (.bool false)], args := [d1, d2, d3, d4, d5, d6, d7] }
  | _ => none }
def TopApartWrongFalsely : Prop := topApartRow.holds Tryz.pinned (OpenSpec.ofChange topApartWrong)

/- THE SECOND FORM. 'bulk': how many values and letters a reading holds, each counted each time it is reached (what is shared counts as often as it is met; a slice's spare places count too). A statement '..UptoSaid' is the law's where the arguments, and the package variables that the reading takes, are together of bulk at most 1048576: NARROWER than '..Said'. Prove '..Said' where nothing that the law and all that it calls make is longer than what came in: it says more and counts as full. Else prove '..UptoSaid'. A law counts once. -/
mutual
def uptoBulk {H : Type} : DataW H → Nat
  | .lit (.string bytes) => bytes.length + 1
  | .lit _ => 1
  | .nil => 1
  | .ptr d => uptoBulk d + 1
  | .slice elems spare => uptoBulkAll elems + uptoBulkAll spare + 1
  | .agg parts => uptoBulkAll parts + 1
  | .iface _ d => uptoBulk d + 1
  | .map entries => uptoBulkEntries entries + 1
  | .held _ => 1
def uptoBulkAll {H : Type} : List (DataW H) → Nat
  | [] => 0
  | d :: r => uptoBulk d + uptoBulkAll r
def uptoBulkEntries {H : Type} : List (Lit × DataW H) → Nat
  | [] => 0
  | x :: r => uptoBulkEntry x + uptoBulkEntries r
def uptoBulkEntry {H : Type} : Lit × DataW H → Nat
  | (.string bytes, d) => bytes.length + uptoBulk d + 1
  | (_, d) => uptoBulk d + 1
 end
def uptoSmall : (H : Type) → List (DataW H) → Bool := fun _ ds => decide (uptoBulkAll ds ≤ 1048576)
def OpenSpec.upto (s : _root_.Go.ChangeSpec) : _root_.Go.OpenSpec := { _root_.Go.OpenSpec.ofChange s with cond := some uptoSmall }

/-- 'splittallylaw.WorldPlays', WHERE WHAT IT READS IS OF BULK AT MOST 1048576: true; the input reads as it did. -/
def worldPlaysUptoRow : OpenClaim := { program := "ytbolcebmbpepdaagreatdoor", sum := "2c44f93da81b9f289605b0d1335ef3445a90e6eca770bb44963bd99d1d875724", func := "splittally/splittallylaw.WorldPlays", spec := "worldPlays", inPlace := ["slices.overlaps[splittally/api.Entry]"], unfollowed := true, recurses := true, named := ["splittally/world.orders"], plainKeys := false, apart := false, laid := [("splittally/world.orders", laid_splittally_world_orders)], narrowed := true }
def WorldPlaysUptoSaid : Prop := worldPlaysUptoRow.holds Tryz.pinned (OpenSpec.upto worldPlaysSpec)

/-- 'splittallylaw.WorldEnds', WHERE WHAT IT READS IS OF BULK AT MOST 1048576: true; the input reads as it did. -/
def worldEndsUptoRow : OpenClaim := { program := "ytbolcebmbpepdaagreatdoor", sum := "2c44f93da81b9f289605b0d1335ef3445a90e6eca770bb44963bd99d1d875724", func := "splittally/splittallylaw.WorldEnds", spec := "worldEnds", inPlace := ["slices.overlaps[splittally/api.Entry]"], unfollowed := true, recurses := true, named := ["splittally/world.orders"], plainKeys := false, apart := false, laid := [("splittally/world.orders", laid_splittally_world_orders)], narrowed := true }
def WorldEndsUptoSaid : Prop := worldEndsUptoRow.holds Tryz.pinned (OpenSpec.upto worldEndsSpec)

/-- 'splittallytop.TopFirst', WHERE WHAT IT READS IS OF BULK AT MOST 1048576: true; the input reads as it did. -/
def topFirstUptoRow : OpenClaim := { program := "ytbolcebmbpepdaagreatdoor", sum := "2c44f93da81b9f289605b0d1335ef3445a90e6eca770bb44963bd99d1d875724", func := "splittally/splittallytop.TopFirst", spec := "topFirst", inPlace := ["slices.overlaps[splittally/api.Entry]"], unfollowed := true, recurses := true, named := ["splittally/world.orders"], plainKeys := false, apart := false, laid := [("splittally/world.orders", laid_splittally_world_orders)], narrowed := true }
def TopFirstUptoSaid : Prop := topFirstUptoRow.holds Tryz.pinned (OpenSpec.upto topFirstSpec)

/-- 'splittallytop.TopApart', WHERE WHAT IT READS IS OF BULK AT MOST 1048576: true; the input reads as it did. -/
def topApartUptoRow : OpenClaim := { program := "ytbolcebmbpepdaagreatdoor", sum := "2c44f93da81b9f289605b0d1335ef3445a90e6eca770bb44963bd99d1d875724", func := "splittally/splittallytop.TopApart", spec := "topApart", inPlace := ["slices.overlaps[splittally/api.Entry]"], unfollowed := true, recurses := true, named := ["splittally/world.orders"], plainKeys := false, apart := false, laid := [("splittally/world.orders", laid_splittally_world_orders)], narrowed := true }
def TopApartUptoSaid : Prop := topApartUptoRow.holds Tryz.pinned (OpenSpec.upto topApartSpec)

end Rows
end Go.Proofs.YtbolcebmbpepdaaGreatDoor
