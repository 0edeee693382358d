/-
  No cell of these rows narrows 'for every input' (looked for: loops, veiled, ifaces, maps, wideKeys, modest, calm, conditions, laid).
  DERIVED. THE GIVEN ROWS OF THIS SEAT. 5 by the template 'for every input the law returns true; each argument reads behind the call as it read before'; 0 by the template 'total and deterministic' (their statements: YthmnfbnaeggknaaTotals.lean).
  GIVEN WITH THE SEED: the statements are not yours to turn. If you find one false, say at which input.
  Laid BY PROGRAM, IN A SANDBOX (cutbox-rows.mjs): the forced cells as the released guide's own fill.sh prints them over the translation 755c63e9a010a2bd… (all of the seat's roots in one cut). By AI agents, Wed Nov 11 2026. No macro, syntax, notation, axiom, sorry.
-/
import Derived.Test.YthmnfbnaeggknaaChecked
import GoSem.Claim
import GoSem.ClaimJoined
import GoSem.ClaimMapViews
import Derived.JoinedTies
import Derived.KernelRfl
namespace Go.Proofs.Ythmnfbnaeggknaa
/- THE CELL 'sum', in the pinned program and in every row, IS THE sha256 OF THE DUMP (.gsa) THAT YthmnfbnaeggknaaProg.lean LOADS. Nothing in Lean hashes anything: it is a label: what it is worth is what the hold of that sum in a sandbox is worth. -/
noncomputable def Try.pinned : Pinned := { name := "ythmnfbnaeggknaa", sum := "755c63e9a010a2bd6b37103e18523ec53fef32c54b986b8ffd4b67b57111799b", checked := Try.checked }
namespace Rows
def none {H : Type} : Left H := { results := [], args := [] }

/-- 'splittallylaw.RegMays': WHATEVER THE INPUT: true; the input reads as it did. -/
def regMaysSpec : ChangeSpec := { name := "regMays", fn := fun _ => fun
  | [d] => { results := [.lit (.bool true)], args := [d] }
  | _ => none }
def regMaysRow : OpenClaim := { program := "ythmnfbnaeggknaa", sum := "755c63e9a010a2bd6b37103e18523ec53fef32c54b986b8ffd4b67b57111799b", func := "splittally/splittallylaw.RegMays", spec := "regMays", apart := false }
def RegMaysSaid : Prop := regMaysRow.holds Try.pinned (OpenSpec.ofChange regMaysSpec)

/-- ITS FALSE NEIGHBOUR: 'it returns false'. Refute it at one input. -/
def regMaysWrong : ChangeSpec := { name := "regMays", fn := fun _ => fun
  | [d] => { results := [.lit (.bool false)], args := [d] }
  | _ => none }
def RegMaysWrongFalsely : Prop := regMaysRow.holds Try.pinned (OpenSpec.ofChange regMaysWrong)

/-- 'splittallylaw.RegNewers': WHATEVER THE INPUT: true; the input reads as it did. -/
def regNewersSpec : ChangeSpec := { name := "regNewers", fn := fun _ => fun
  | [d1, d2] => { results := [.lit (.bool true)], args := [d1, d2] }
  | _ => none }
def regNewersRow : OpenClaim := { program := "ythmnfbnaeggknaa", sum := "755c63e9a010a2bd6b37103e18523ec53fef32c54b986b8ffd4b67b57111799b", func := "splittally/splittallylaw.RegNewers", spec := "regNewers", apart := false }
def RegNewersSaid : Prop := regNewersRow.holds Try.pinned (OpenSpec.ofChange regNewersSpec)

/-- ITS FALSE NEIGHBOUR: 'it returns false'. Refute it at one input. -/
def regNewersWrong : ChangeSpec := { name := "regNewers", fn := fun _ => fun
  | [d1, d2] => { results := [.lit (.bool false)], args := [d1, d2] }
  | _ => none }
def RegNewersWrongFalsely : Prop := regNewersRow.holds Try.pinned (OpenSpec.ofChange regNewersWrong)

/-- 'splittallylaw.RegLives': WHATEVER THE INPUT: true; the input reads as it did. -/
def regLivesSpec : ChangeSpec := { name := "regLives", fn := fun _ => fun
  | [d] => { results := [.lit (.bool true)], args := [d] }
  | _ => none }
def regLivesRow : OpenClaim := { program := "ythmnfbnaeggknaa", sum := "755c63e9a010a2bd6b37103e18523ec53fef32c54b986b8ffd4b67b57111799b", func := "splittally/splittallylaw.RegLives", spec := "regLives", unfollowed := true, recurses := true, apart := false }
def RegLivesSaid : Prop := regLivesRow.holds Try.pinned (OpenSpec.ofChange regLivesSpec)

/-- ITS FALSE NEIGHBOUR: 'it returns false'. Refute it at one input. -/
def regLivesWrong : ChangeSpec := { name := "regLives", fn := fun _ => fun
  | [d] => { results := [.lit (.bool false)], args := [d] }
  | _ => none }
def RegLivesWrongFalsely : Prop := regLivesRow.holds Try.pinned (OpenSpec.ofChange regLivesWrong)

/-- 'splittallylaw.RegMerges': WHATEVER THE INPUT: true; the input reads as it did. -/
def regMergesSpec : ChangeSpec := { name := "regMerges", fn := fun _ => fun
  | [d1, d2] => { results := [.lit (.bool true)], args := [d1, d2] }
  | _ => none }
def regMergesRow : OpenClaim := { program := "ythmnfbnaeggknaa", sum := "755c63e9a010a2bd6b37103e18523ec53fef32c54b986b8ffd4b67b57111799b", func := "splittally/splittallylaw.RegMerges", spec := "regMerges", inPlace := ["slices.overlaps[splittally/api.Entry]"], unfollowed := true, recurses := true, apart := false }
def RegMergesSaid : Prop := regMergesRow.holds Try.pinned (OpenSpec.ofChange regMergesSpec)

/-- ITS FALSE NEIGHBOUR: 'it returns false'. Refute it at one input. -/
def regMergesWrong : ChangeSpec := { name := "regMerges", fn := fun _ => fun
  | [d1, d2] => { results := [.lit (.bool false)], args := [d1, d2] }
  | _ => none }
def RegMergesWrongFalsely : Prop := regMergesRow.holds Try.pinned (OpenSpec.ofChange regMergesWrong)

/-- 'splittallylaw.GossipPlays': WHATEVER THE INPUT: true; the input reads as it did. -/
def gossipPlaysSpec : ChangeSpec := { name := "gossipPlays", fn := fun _ => fun
  | [d1, d2, d3] => { results := [.lit (.bool true)], args := [d1, d2, d3] }
  | _ => none }
def gossipPlaysRow : OpenClaim := { program := "ythmnfbnaeggknaa", sum := "755c63e9a010a2bd6b37103e18523ec53fef32c54b986b8ffd4b67b57111799b", func := "splittally/splittallylaw.GossipPlays", spec := "gossipPlays", inPlace := ["slices.overlaps[splittally/api.Entry]"], unfollowed := true, recurses := true, apart := false }
def GossipPlaysSaid : Prop := gossipPlaysRow.holds Try.pinned (OpenSpec.ofChange gossipPlaysSpec)

/-- ITS FALSE NEIGHBOUR: 'it returns false'. Refute it at one input. -/
def gossipPlaysWrong : ChangeSpec := { name := "gossipPlays", fn := fun _ => fun
  | [d1, d2, d3] => { results := [.lit (.bool false)], args := [d1, d2, d3] }
  | _ => none }
def GossipPlaysWrongFalsely : Prop := gossipPlaysRow.holds Try.pinned (OpenSpec.ofChange gossipPlaysWrong)

/- THE SECOND FORM. 'bulk': how many values and letters a reading holds, each counted each time it is reached (what is shared counts as often as it is met; a slice's spare places count too). A statement '..UptoSaid' is the law's where the arguments, and the package variables that the reading takes, are together of bulk at most 1048576: NARROWER than '..Said'. Prove '..Said' where nothing that the law and all that it calls make is longer than what came in: it says more and counts as full. Else prove '..UptoSaid'. A law counts once. -/
mutual
def uptoBulk {H : Type} : DataW H → Nat
  | .lit (.string bytes) => bytes.length + 1
  | .lit _ => 1
  | .nil => 1
  | .ptr d => uptoBulk d + 1
  | .slice elems spare => uptoBulkAll elems + uptoBulkAll spare + 1
  | .agg parts => uptoBulkAll parts + 1
  | .iface _ d => uptoBulk d + 1
  | .map entries => uptoBulkEntries entries + 1
  | .held _ => 1
def uptoBulkAll {H : Type} : List (DataW H) → Nat
  | [] => 0
  | d :: r => uptoBulk d + uptoBulkAll r
def uptoBulkEntries {H : Type} : List (Lit × DataW H) → Nat
  | [] => 0
  | x :: r => uptoBulkEntry x + uptoBulkEntries r
def uptoBulkEntry {H : Type} : Lit × DataW H → Nat
  | (.string bytes, d) => bytes.length + uptoBulk d + 1
  | (_, d) => uptoBulk d + 1
 end
def uptoSmall : (H : Type) → List (DataW H) → Bool := fun _ ds => decide (uptoBulkAll ds ≤ 1048576)
def OpenSpec.upto (s : _root_.Go.ChangeSpec) : _root_.Go.OpenSpec := { _root_.Go.OpenSpec.ofChange s with cond := some uptoSmall }

/-- 'splittallylaw.RegMays', WHERE WHAT IT READS IS OF BULK AT MOST 1048576: true; the input reads as it did. -/
def regMaysUptoRow : OpenClaim := { program := "ythmnfbnaeggknaa", sum := "755c63e9a010a2bd6b37103e18523ec53fef32c54b986b8ffd4b67b57111799b", func := "splittally/splittallylaw.RegMays", spec := "regMays", apart := false, narrowed := true }
def RegMaysUptoSaid : Prop := regMaysUptoRow.holds Try.pinned (OpenSpec.upto regMaysSpec)

/-- 'splittallylaw.RegNewers', WHERE WHAT IT READS IS OF BULK AT MOST 1048576: true; the input reads as it did. -/
def regNewersUptoRow : OpenClaim := { program := "ythmnfbnaeggknaa", sum := "755c63e9a010a2bd6b37103e18523ec53fef32c54b986b8ffd4b67b57111799b", func := "splittally/splittallylaw.RegNewers", spec := "regNewers", apart := false, narrowed := true }
def RegNewersUptoSaid : Prop := regNewersUptoRow.holds Try.pinned (OpenSpec.upto regNewersSpec)

/-- 'splittallylaw.RegLives', WHERE WHAT IT READS IS OF BULK AT MOST 1048576: true; the input reads as it did. -/
def regLivesUptoRow : OpenClaim := { program := "ythmnfbnaeggknaa", sum := "755c63e9a010a2bd6b37103e18523ec53fef32c54b986b8ffd4b67b57111799b", func := "splittally/splittallylaw.RegLives", spec := "regLives", unfollowed := true, recurses := true, apart := false, narrowed := true }
def RegLivesUptoSaid : Prop := regLivesUptoRow.holds Try.pinned (OpenSpec.upto regLivesSpec)

/-- 'splittallylaw.RegMerges', WHERE WHAT IT READS IS OF BULK AT MOST 1048576: true; the input reads as it did. -/
def regMergesUptoRow : OpenClaim := { program := "ythmnfbnaeggknaa", sum := "755c63e9a010a2bd6b37103e18523ec53fef32c54b986b8ffd4b67b57111799b", func := "splittally/splittallylaw.RegMerges", spec := "regMerges", inPlace := ["slices.overlaps[splittally/api.Entry]"], unfollowed := true, recurses := true, apart := false, narrowed := true }
def RegMergesUptoSaid : Prop := regMergesUptoRow.holds Try.pinned (OpenSpec.upto regMergesSpec)

/-- 'splittallylaw.GossipPlays', WHERE WHAT IT READS IS OF BULK AT MOST 1048576: true; the input reads as it did. -/
def gossipPlaysUptoRow : OpenClaim := { program := "ythmnfbnaeggknaa", sum := "755c63e9a010a2bd6b37103e18523ec53fef32c54b986b8ffd4b67b57111799b", func := "splittally/splittallylaw.GossipPlays", spec := "gossipPlays", inPlace := ["slices.overlaps[splittally/api.Entry]"], unfollowed := true, recurses := true, apart := false, narrowed := true }
def GossipPlaysUptoSaid : Prop := gossipPlaysUptoRow.holds Try.pinned (OpenSpec.upto gossipPlaysSpec)

end Rows
end Go.Proofs.Ythmnfbnaeggknaa
