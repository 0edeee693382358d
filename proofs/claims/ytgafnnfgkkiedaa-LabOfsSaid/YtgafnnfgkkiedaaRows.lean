/-
  No cell of these rows narrows 'for every input' (looked for: loops, veiled, ifaces, maps, wideKeys, modest, calm, conditions, laid).
  DERIVED. THE GIVEN ROWS OF THIS SEAT. 6 by the template 'for every input the law returns true; each argument reads behind the call as it read before'; 0 by the template 'total and deterministic' (their statements: YtgafnnfgkkiedaaTotals.lean).
  GIVEN WITH THE SEED: the statements are not yours to turn. If you find one false, say at which input.
  Laid BY PROGRAM, IN A SANDBOX (cutbox-rows.mjs): the forced cells as the released guide's own fill.sh prints them over the translation 8a4799df3426739f… (all of the seat's roots in one cut). By AI agents, Wed Nov 11 2026. No macro, syntax, notation, axiom, sorry.
-/
import Derived.Test.YtgafnnfgkkiedaaChecked
import GoSem.Claim
import GoSem.ClaimJoined
import GoSem.ClaimMapViews
import Derived.JoinedTies
import Derived.KernelRfl
namespace Go.Proofs.Ytgafnnfgkkiedaa
/- THE CELL 'sum', in the pinned program and in every row, IS THE sha256 OF THE DUMP (.gsa) THAT YtgafnnfgkkiedaaProg.lean LOADS. Nothing in Lean hashes anything: it is a label: what it is worth is what the hold of that sum in a sandbox is worth. -/
noncomputable def Try.pinned : Pinned := { name := "ytgafnnfgkkiedaa", sum := "8a4799df3426739ff99ce87eb1a968083db117dbf7e165357568d26ef48d04d6", checked := Try.checked }
namespace Rows
def none {H : Type} : Left H := { results := [], args := [] }

/-- 'splittallylaw.Names': WHATEVER THE INPUT: true; the input reads as it did. -/
def namesSpec : ChangeSpec := { name := "names", fn := fun _ => fun
  | [] => { results := [.lit (.bool true)], args := [] }
  | _ => none }
def namesRow : OpenClaim := { program := "ytgafnnfgkkiedaa", sum := "8a4799df3426739ff99ce87eb1a968083db117dbf7e165357568d26ef48d04d6", func := "splittally/splittallylaw.Names", spec := "names", apart := false }
def NamesSaid : Prop := namesRow.holds Try.pinned (OpenSpec.ofChange namesSpec)

/-- ITS FALSE NEIGHBOUR: 'it returns false'. Refute it at one input. -/
def namesWrong : ChangeSpec := { name := "names", fn := fun _ => fun
  | [] => { results := [.lit (.bool false)], args := [] }
  | _ => none }
def NamesWrongFalsely : Prop := namesRow.holds Try.pinned (OpenSpec.ofChange namesWrong)

/-- 'splittallylaw.LabMays': WHATEVER THE INPUT: true; the input reads as it did. -/
def labMaysSpec : ChangeSpec := { name := "labMays", fn := fun _ => fun
  | [d] => { results := [.lit (.bool true)], args := [d] }
  | _ => none }
def labMaysRow : OpenClaim := { program := "ytgafnnfgkkiedaa", sum := "8a4799df3426739ff99ce87eb1a968083db117dbf7e165357568d26ef48d04d6", func := "splittally/splittallylaw.LabMays", spec := "labMays", apart := false }
def LabMaysSaid : Prop := labMaysRow.holds Try.pinned (OpenSpec.ofChange labMaysSpec)

/-- ITS FALSE NEIGHBOUR: 'it returns false'. Refute it at one input. -/
def labMaysWrong : ChangeSpec := { name := "labMays", fn := fun _ => fun
  | [d] => { results := [.lit (.bool false)], args := [d] }
  | _ => none }
def LabMaysWrongFalsely : Prop := labMaysRow.holds Try.pinned (OpenSpec.ofChange labMaysWrong)

/-- 'splittallylaw.LabJoins': WHATEVER THE INPUT: true; the input reads as it did. -/
def labJoinsSpec : ChangeSpec := { name := "labJoins", fn := fun _ => fun
  | [d1, d2] => { results := [.lit (.bool true)], args := [d1, d2] }
  | _ => none }
def labJoinsRow : OpenClaim := { program := "ytgafnnfgkkiedaa", sum := "8a4799df3426739ff99ce87eb1a968083db117dbf7e165357568d26ef48d04d6", func := "splittally/splittallylaw.LabJoins", spec := "labJoins", unfollowed := true, recurses := true, apart := false }
def LabJoinsSaid : Prop := labJoinsRow.holds Try.pinned (OpenSpec.ofChange labJoinsSpec)

/-- ITS FALSE NEIGHBOUR: 'it returns false'. Refute it at one input. -/
def labJoinsWrong : ChangeSpec := { name := "labJoins", fn := fun _ => fun
  | [d1, d2] => { results := [.lit (.bool false)], args := [d1, d2] }
  | _ => none }
def LabJoinsWrongFalsely : Prop := labJoinsRow.holds Try.pinned (OpenSpec.ofChange labJoinsWrong)

/-- 'splittallylaw.LabMeets': WHATEVER THE INPUT: true; the input reads as it did. -/
def labMeetsSpec : ChangeSpec := { name := "labMeets", fn := fun _ => fun
  | [d1, d2] => { results := [.lit (.bool true)], args := [d1, d2] }
  | _ => none }
def labMeetsRow : OpenClaim := { program := "ytgafnnfgkkiedaa", sum := "8a4799df3426739ff99ce87eb1a968083db117dbf7e165357568d26ef48d04d6", func := "splittally/splittallylaw.LabMeets", spec := "labMeets", unfollowed := true, recurses := true, apart := false }
def LabMeetsSaid : Prop := labMeetsRow.holds Try.pinned (OpenSpec.ofChange labMeetsSpec)

/-- ITS FALSE NEIGHBOUR: 'it returns false'. Refute it at one input. -/
def labMeetsWrong : ChangeSpec := { name := "labMeets", fn := fun _ => fun
  | [d1, d2] => { results := [.lit (.bool false)], args := [d1, d2] }
  | _ => none }
def LabMeetsWrongFalsely : Prop := labMeetsRow.holds Try.pinned (OpenSpec.ofChange labMeetsWrong)

/-- 'splittallylaw.LabFlows': WHATEVER THE INPUT: true; the input reads as it did. -/
def labFlowsSpec : ChangeSpec := { name := "labFlows", fn := fun _ => fun
  | [d1, d2] => { results := [.lit (.bool true)], args := [d1, d2] }
  | _ => none }
def labFlowsRow : OpenClaim := { program := "ytgafnnfgkkiedaa", sum := "8a4799df3426739ff99ce87eb1a968083db117dbf7e165357568d26ef48d04d6", func := "splittally/splittallylaw.LabFlows", spec := "labFlows", unfollowed := true, recurses := true, apart := false }
def LabFlowsSaid : Prop := labFlowsRow.holds Try.pinned (OpenSpec.ofChange labFlowsSpec)

/-- ITS FALSE NEIGHBOUR: 'it returns false'. Refute it at one input. -/
def labFlowsWrong : ChangeSpec := { name := "labFlows", fn := fun _ => fun
  | [d1, d2] => { results := [.lit (.bool false)], args := [d1, d2] }
  | _ => none }
def LabFlowsWrongFalsely : Prop := labFlowsRow.holds Try.pinned (OpenSpec.ofChange labFlowsWrong)

/-- 'splittallylaw.LabOfs': WHATEVER THE INPUT: true; the input reads as it did. -/
def labOfsSpec : ChangeSpec := { name := "labOfs", fn := fun _ => fun
  | [d] => { results := [.lit (.bool true)], args := [d] }
  | _ => none }
def labOfsRow : OpenClaim := { program := "ytgafnnfgkkiedaa", sum := "8a4799df3426739ff99ce87eb1a968083db117dbf7e165357568d26ef48d04d6", func := "splittally/splittallylaw.LabOfs", spec := "labOfs", unfollowed := true, recurses := true, apart := false }
def LabOfsSaid : Prop := labOfsRow.holds Try.pinned (OpenSpec.ofChange labOfsSpec)

/-- ITS FALSE NEIGHBOUR: 'it returns false'. Refute it at one input. -/
def labOfsWrong : ChangeSpec := { name := "labOfs", fn := fun _ => fun
  | [d] => { results := [.lit (.bool false)], args := [d] }
  | _ => none }
def LabOfsWrongFalsely : Prop := labOfsRow.holds Try.pinned (OpenSpec.ofChange labOfsWrong)

/- THE SECOND FORM. 'bulk': how many values and letters a reading holds, each counted each time it is reached (what is shared counts as often as it is met; a slice's spare places count too). A statement '..UptoSaid' is the law's where the arguments, and the package variables that the reading takes, are together of bulk at most 1048576: NARROWER than '..Said'. Prove '..Said' where nothing that the law and all that it calls make is longer than what came in: it says more and counts as full. Else prove '..UptoSaid'. A law counts once. -/
mutual
def uptoBulk {H : Type} : DataW H → Nat
  | .lit (.string bytes) => bytes.length + 1
  | .lit _ => 1
  | .nil => 1
  | .ptr d => uptoBulk d + 1
  | .slice elems spare => uptoBulkAll elems + uptoBulkAll spare + 1
  | .agg parts => uptoBulkAll parts + 1
  | .iface _ d => uptoBulk d + 1
  | .map entries => uptoBulkEntries entries + 1
  | .held _ => 1
def uptoBulkAll {H : Type} : List (DataW H) → Nat
  | [] => 0
  | d :: r => uptoBulk d + uptoBulkAll r
def uptoBulkEntries {H : Type} : List (Lit × DataW H) → Nat
  | [] => 0
  | x :: r => uptoBulkEntry x + uptoBulkEntries r
def uptoBulkEntry {H : Type} : Lit × DataW H → Nat
  | (.string bytes, d) => bytes.length + uptoBulk d + 1
  | (_, d) => uptoBulk d + 1
 end
def uptoSmall : (H : Type) → List (DataW H) → Bool := fun _ ds => decide (uptoBulkAll ds ≤ 1048576)
def OpenSpec.upto (s : _root_.Go.ChangeSpec) : _root_.Go.OpenSpec := { _root_.Go.OpenSpec.ofChange s with cond := some uptoSmall }

/-- 'splittallylaw.Names', WHERE WHAT IT READS IS OF BULK AT MOST 1048576: true; the input reads as it did. -/
def namesUptoRow : OpenClaim := { program := "ytgafnnfgkkiedaa", sum := "8a4799df3426739ff99ce87eb1a968083db117dbf7e165357568d26ef48d04d6", func := "splittally/splittallylaw.Names", spec := "names", apart := false, narrowed := true }
def NamesUptoSaid : Prop := namesUptoRow.holds Try.pinned (OpenSpec.upto namesSpec)

/-- 'splittallylaw.LabMays', WHERE WHAT IT READS IS OF BULK AT MOST 1048576: true; the input reads as it did. -/
def labMaysUptoRow : OpenClaim := { program := "ytgafnnfgkkiedaa", sum := "8a4799df3426739ff99ce87eb1a968083db117dbf7e165357568d26ef48d04d6", func := "splittally/splittallylaw.LabMays", spec := "labMays", apart := false, narrowed := true }
def LabMaysUptoSaid : Prop := labMaysUptoRow.holds Try.pinned (OpenSpec.upto labMaysSpec)

/-- 'splittallylaw.LabJoins', WHERE WHAT IT READS IS OF BULK AT MOST 1048576: true; the input reads as it did. -/
def labJoinsUptoRow : OpenClaim := { program := "ytgafnnfgkkiedaa", sum := "8a4799df3426739ff99ce87eb1a968083db117dbf7e165357568d26ef48d04d6", func := "splittally/splittallylaw.LabJoins", spec := "labJoins", unfollowed := true, recurses := true, apart := false, narrowed := true }
def LabJoinsUptoSaid : Prop := labJoinsUptoRow.holds Try.pinned (OpenSpec.upto labJoinsSpec)

/-- 'splittallylaw.LabMeets', WHERE WHAT IT READS IS OF BULK AT MOST 1048576: true; the input reads as it did. -/
def labMeetsUptoRow : OpenClaim := { program := "ytgafnnfgkkiedaa", sum := "8a4799df3426739ff99ce87eb1a968083db117dbf7e165357568d26ef48d04d6", func := "splittally/splittallylaw.LabMeets", spec := "labMeets", unfollowed := true, recurses := true, apart := false, narrowed := true }
def LabMeetsUptoSaid : Prop := labMeetsUptoRow.holds Try.pinned (OpenSpec.upto labMeetsSpec)

/-- 'splittallylaw.LabFlows', WHERE WHAT IT READS IS OF BULK AT MOST 1048576: true; the input reads as it did. -/
def labFlowsUptoRow : OpenClaim := { program := "ytgafnnfgkkiedaa", sum := "8a4799df3426739ff99ce87eb1a968083db117dbf7e165357568d26ef48d04d6", func := "splittally/splittallylaw.LabFlows", spec := "labFlows", unfollowed := true, recurses := true, apart := false, narrowed := true }
def LabFlowsUptoSaid : Prop := labFlowsUptoRow.holds Try.pinned (OpenSpec.upto labFlowsSpec)

/-- 'splittallylaw.LabOfs', WHERE WHAT IT READS IS OF BULK AT MOST 1048576: true; the input reads as it did. -/
def labOfsUptoRow : OpenClaim := { program := "ytgafnnfgkkiedaa", sum := "8a4799df3426739ff99ce87eb1a968083db117dbf7e165357568d26ef48d04d6", func := "splittally/splittallylaw.LabOfs", spec := "labOfs", unfollowed := true, recurses := true, apart := false, narrowed := true }
def LabOfsUptoSaid : Prop := labOfsUptoRow.holds Try.pinned (OpenSpec.upto labOfsSpec)

end Rows
end Go.Proofs.Ytgafnnfgkkiedaa
