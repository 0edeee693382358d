/-
  No cell of these rows narrows 'for every input' (looked for: loops, veiled, ifaces, maps, wideKeys, modest, calm, conditions, laid).
  DERIVED. THE GIVEN ROWS OF THIS SEAT. 4 by the template 'for every input the law returns true; each argument reads behind the call as it read before'; 0 by the template 'total and deterministic' (their statements: YtjhgnblakmhncaaTotals.lean).
  GIVEN WITH THE SEED: the statements are not yours to turn. If you find one false, say at which input.
  Laid BY PROGRAM, IN A SANDBOX (cutbox-rows.mjs): the forced cells as the released guide's own fill.sh prints them over the translation 41ebda8d373d27dc… (all of the seat's roots in one cut). By AI agents, Wed Nov 11 2026. No macro, syntax, notation, axiom, sorry.
-/
import Derived.Test.YtjhgnblakmhncaaChecked
import GoSem.Claim
import GoSem.ClaimJoined
import GoSem.ClaimMapViews
import Derived.JoinedTies
import Derived.KernelRfl
namespace Go.Proofs.Ytjhgnblakmhncaa
/- THE CELL 'sum', in the pinned program and in every row, IS THE sha256 OF THE DUMP (.gsa) THAT YtjhgnblakmhncaaProg.lean LOADS. Nothing in Lean hashes anything: it is a label: what it is worth is what the hold of that sum in a sandbox is worth. -/
noncomputable def Try.pinned : Pinned := { name := "ytjhgnblakmhncaa", sum := "41ebda8d373d27dcca588d373f8fa78e0909c33464a7f92f18483735717ccf5c", checked := Try.checked }
namespace Rows
def none {H : Type} : Left H := { results := [], args := [] }

/-- 'splittallylaw.TallyMays': WHATEVER THE INPUT: true; the input reads as it did. -/
def tallyMaysSpec : ChangeSpec := { name := "tallyMays", fn := fun _ => fun
  | [d] => { results := [.lit (.bool true)], args := [d] }
  | _ => none }
def tallyMaysRow : OpenClaim := { program := "ytjhgnblakmhncaa", sum := "41ebda8d373d27dcca588d373f8fa78e0909c33464a7f92f18483735717ccf5c", func := "splittally/splittallylaw.TallyMays", spec := "tallyMays", unfollowed := true, recurses := true, apart := false }
def TallyMaysSaid : Prop := tallyMaysRow.holds Try.pinned (OpenSpec.ofChange tallyMaysSpec)

/-- ITS FALSE NEIGHBOUR: 'it returns false'. Refute it at one input. -/
def tallyMaysWrong : ChangeSpec := { name := "tallyMays", fn := fun _ => fun
  | [d] => { results := [.lit (.bool false)], args := [d] }
  | _ => none }
def TallyMaysWrongFalsely : Prop := tallyMaysRow.holds Try.pinned (OpenSpec.ofChange tallyMaysWrong)

/-- 'splittallylaw.TallyLefts': WHATEVER THE INPUT: true; the input reads as it did. -/
def tallyLeftsSpec : ChangeSpec := { name := "tallyLefts", fn := fun _ => fun
  | [d1, d2] => { results := [.lit (.bool true)], args := [d1, d2] }
  | _ => none }
def tallyLeftsRow : OpenClaim := { program := "ytjhgnblakmhncaa", sum := "41ebda8d373d27dcca588d373f8fa78e0909c33464a7f92f18483735717ccf5c", func := "splittally/splittallylaw.TallyLefts", spec := "tallyLefts", unfollowed := true, recurses := true, apart := false }
def TallyLeftsSaid : Prop := tallyLeftsRow.holds Try.pinned (OpenSpec.ofChange tallyLeftsSpec)

/-- ITS FALSE NEIGHBOUR: 'it returns false'. Refute it at one input. -/
def tallyLeftsWrong : ChangeSpec := { name := "tallyLefts", fn := fun _ => fun
  | [d1, d2] => { results := [.lit (.bool false)], args := [d1, d2] }
  | _ => none }
def TallyLeftsWrongFalsely : Prop := tallyLeftsRow.holds Try.pinned (OpenSpec.ofChange tallyLeftsWrong)

/-- 'splittallylaw.TallyMerges': WHATEVER THE INPUT: true; the input reads as it did. -/
def tallyMergesSpec : ChangeSpec := { name := "tallyMerges", fn := fun _ => fun
  | [d1, d2] => { results := [.lit (.bool true)], args := [d1, d2] }
  | _ => none }
def tallyMergesRow : OpenClaim := { program := "ytjhgnblakmhncaa", sum := "41ebda8d373d27dcca588d373f8fa78e0909c33464a7f92f18483735717ccf5c", func := "splittally/splittallylaw.TallyMerges", spec := "tallyMerges", unfollowed := true, recurses := true, apart := false }
def TallyMergesSaid : Prop := tallyMergesRow.holds Try.pinned (OpenSpec.ofChange tallyMergesSpec)

/-- ITS FALSE NEIGHBOUR: 'it returns false'. Refute it at one input. -/
def tallyMergesWrong : ChangeSpec := { name := "tallyMerges", fn := fun _ => fun
  | [d1, d2] => { results := [.lit (.bool false)], args := [d1, d2] }
  | _ => none }
def TallyMergesWrongFalsely : Prop := tallyMergesRow.holds Try.pinned (OpenSpec.ofChange tallyMergesWrong)

/-- 'splittallylaw.TallyDoes': WHATEVER THE INPUT: true; the input reads as it did. -/
def tallyDoesSpec : ChangeSpec := { name := "tallyDoes", fn := fun _ => fun
  | [d1, d2] => { results := [.lit (.bool true)], args := [d1, d2] }
  | _ => none }
def tallyDoesRow : OpenClaim := { program := "ytjhgnblakmhncaa", sum := "41ebda8d373d27dcca588d373f8fa78e0909c33464a7f92f18483735717ccf5c", func := "splittally/splittallylaw.TallyDoes", spec := "tallyDoes", unfollowed := true, recurses := true, apart := false }
def TallyDoesSaid : Prop := tallyDoesRow.holds Try.pinned (OpenSpec.ofChange tallyDoesSpec)

/-- ITS FALSE NEIGHBOUR: 'it returns false'. Refute it at one input. -/
def tallyDoesWrong : ChangeSpec := { name := "tallyDoes", fn := fun _ => fun
  | [d1, d2] => { results := [.lit (.bool false)], args := [d1, d2] }
  | _ => none }
def TallyDoesWrongFalsely : Prop := tallyDoesRow.holds Try.pinned (OpenSpec.ofChange tallyDoesWrong)

/- THE SECOND FORM. 'bulk': how many values and letters a reading holds, each counted each time it is reached (what is shared counts as often as it is met; a slice's spare places count too). A statement '..UptoSaid' is the law's where the arguments, and the package variables that the reading takes, are together of bulk at most 1048576: NARROWER than '..Said'. Prove '..Said' where nothing that the law and all that it calls make is longer than what came in: it says more and counts as full. Else prove '..UptoSaid'. A law counts once. -/
mutual
def uptoBulk {H : Type} : DataW H → Nat
  | .lit (.string bytes) => bytes.length + 1
  | .lit _ => 1
  | .nil => 1
  | .ptr d => uptoBulk d + 1
  | .slice elems spare => uptoBulkAll elems + uptoBulkAll spare + 1
  | .agg parts => uptoBulkAll parts + 1
  | .iface _ d => uptoBulk d + 1
  | .map entries => uptoBulkEntries entries + 1
  | .held _ => 1
def uptoBulkAll {H : Type} : List (DataW H) → Nat
  | [] => 0
  | d :: r => uptoBulk d + uptoBulkAll r
def uptoBulkEntries {H : Type} : List (Lit × DataW H) → Nat
  | [] => 0
  | x :: r => uptoBulkEntry x + uptoBulkEntries r
def uptoBulkEntry {H : Type} : Lit × DataW H → Nat
  | (.string bytes, d) => bytes.length + uptoBulk d + 1
  | (_, d) => uptoBulk d + 1
 end
def uptoSmall : (H : Type) → List (DataW H) → Bool := fun _ ds => decide (uptoBulkAll ds ≤ 1048576)
def OpenSpec.upto (s : _root_.Go.ChangeSpec) : _root_.Go.OpenSpec := { _root_.Go.OpenSpec.ofChange s with cond := some uptoSmall }

/-- 'splittallylaw.TallyMays', WHERE WHAT IT READS IS OF BULK AT MOST 1048576: true; the input reads as it did. -/
def tallyMaysUptoRow : OpenClaim := { program := "ytjhgnblakmhncaa", sum := "41ebda8d373d27dcca588d373f8fa78e0909c33464a7f92f18483735717ccf5c", func := "splittally/splittallylaw.TallyMays", spec := "tallyMays", unfollowed := true, recurses := true, apart := false, narrowed := true }
def TallyMaysUptoSaid : Prop := tallyMaysUptoRow.holds Try.pinned (OpenSpec.upto tallyMaysSpec)

/-- 'splittallylaw.TallyLefts', WHERE WHAT IT READS IS OF BULK AT MOST 1048576: true; the input reads as it did. -/
def tallyLeftsUptoRow : OpenClaim := { program := "ytjhgnblakmhncaa", sum := "41ebda8d373d27dcca588d373f8fa78e0909c33464a7f92f18483735717ccf5c", func := "splittally/splittallylaw.TallyLefts", spec := "tallyLefts", unfollowed := true, recurses := true, apart := false, narrowed := true }
def TallyLeftsUptoSaid : Prop := tallyLeftsUptoRow.holds Try.pinned (OpenSpec.upto tallyLeftsSpec)

/-- 'splittallylaw.TallyMerges', WHERE WHAT IT READS IS OF BULK AT MOST 1048576: true; the input reads as it did. -/
def tallyMergesUptoRow : OpenClaim := { program := "ytjhgnblakmhncaa", sum := "41ebda8d373d27dcca588d373f8fa78e0909c33464a7f92f18483735717ccf5c", func := "splittally/splittallylaw.TallyMerges", spec := "tallyMerges", unfollowed := true, recurses := true, apart := false, narrowed := true }
def TallyMergesUptoSaid : Prop := tallyMergesUptoRow.holds Try.pinned (OpenSpec.upto tallyMergesSpec)

/-- 'splittallylaw.TallyDoes', WHERE WHAT IT READS IS OF BULK AT MOST 1048576: true; the input reads as it did. -/
def tallyDoesUptoRow : OpenClaim := { program := "ytjhgnblakmhncaa", sum := "41ebda8d373d27dcca588d373f8fa78e0909c33464a7f92f18483735717ccf5c", func := "splittally/splittallylaw.TallyDoes", spec := "tallyDoes", unfollowed := true, recurses := true, apart := false, narrowed := true }
def TallyDoesUptoSaid : Prop := tallyDoesUptoRow.holds Try.pinned (OpenSpec.upto tallyDoesSpec)

end Rows
end Go.Proofs.Ytjhgnblakmhncaa
