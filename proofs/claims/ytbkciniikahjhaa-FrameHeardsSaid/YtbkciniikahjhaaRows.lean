/-
  No cell of these rows narrows 'for every input' (looked for: loops, veiled, ifaces, maps, wideKeys, modest, calm, conditions, laid).
  DERIVED. THE GIVEN ROWS OF THIS SEAT. 6 by the template 'for every input the law returns true; each argument reads behind the call as it read before'; 0 by the template 'total and deterministic' (their statements: YtbkciniikahjhaaTotals.lean).
  GIVEN WITH THE SEED: the statements are not yours to turn. If you find one false, say at which input.
  Laid BY PROGRAM, IN A SANDBOX (cutbox-rows.mjs): the forced cells as the released guide's own fill.sh prints them over the translation c58498f2f6a381f9… (all of the seat's roots in one cut). By AI agents, Wed Nov 11 2026. No macro, syntax, notation, axiom, sorry.
-/
import Derived.Test.YtbkciniikahjhaaChecked
import GoSem.Claim
import GoSem.ClaimJoined
import GoSem.ClaimMapViews
import Derived.JoinedTies
import Derived.KernelRfl
namespace Go.Proofs.Ytbkciniikahjhaa
/- THE CELL 'sum', in the pinned program and in every row, IS THE sha256 OF THE DUMP (.gsa) THAT YtbkciniikahjhaaProg.lean LOADS. Nothing in Lean hashes anything: it is a label: what it is worth is what the hold of that sum in a sandbox is worth. -/
noncomputable def Try.pinned : Pinned := { name := "ytbkciniikahjhaa", sum := "c58498f2f6a381f9246f1f49430f7da88a8fb7d5b47a94b86f495c5b184ce498", checked := Try.checked }
namespace Rows
def none {H : Type} : Left H := { results := [], args := [] }

/-- 'splittallylaw.FrameMays': WHATEVER THE INPUT: true; the input reads as it did. -/
def frameMaysSpec : ChangeSpec := { name := "frameMays", fn := fun _ => fun
  | [d] => { results := [.lit (.bool true)], args := [d] }
  | _ => none }
def frameMaysRow : OpenClaim := { program := "ytbkciniikahjhaa", sum := "c58498f2f6a381f9246f1f49430f7da88a8fb7d5b47a94b86f495c5b184ce498", func := "splittally/splittallylaw.FrameMays", spec := "frameMays", unfollowed := true, recurses := true, apart := false }
def FrameMaysSaid : Prop := frameMaysRow.holds Try.pinned (OpenSpec.ofChange frameMaysSpec)

/-- ITS FALSE NEIGHBOUR: 'it returns false'. Refute it at one input. -/
def frameMaysWrong : ChangeSpec := { name := "frameMays", fn := fun _ => fun
  | [d] => { results := [.lit (.bool false)], args := [d] }
  | _ => none }
def FrameMaysWrongFalsely : Prop := frameMaysRow.holds Try.pinned (OpenSpec.ofChange frameMaysWrong)

/-- 'splittallylaw.FrameAsks': WHATEVER THE INPUT: true; the input reads as it did. -/
def frameAsksSpec : ChangeSpec := { name := "frameAsks", fn := fun _ => fun
  | [d1, d2] => { results := [.lit (.bool true)], args := [d1, d2] }
  | _ => none }
def frameAsksRow : OpenClaim := { program := "ytbkciniikahjhaa", sum := "c58498f2f6a381f9246f1f49430f7da88a8fb7d5b47a94b86f495c5b184ce498", func := "splittally/splittallylaw.FrameAsks", spec := "frameAsks", unfollowed := true, recurses := true, apart := false }
def FrameAsksSaid : Prop := frameAsksRow.holds Try.pinned (OpenSpec.ofChange frameAsksSpec)

/-- ITS FALSE NEIGHBOUR: 'it returns false'. Refute it at one input. -/
def frameAsksWrong : ChangeSpec := { name := "frameAsks", fn := fun _ => fun
  | [d1, d2] => { results := [.lit (.bool false)], args := [d1, d2] }
  | _ => none }
def FrameAsksWrongFalsely : Prop := frameAsksRow.holds Try.pinned (OpenSpec.ofChange frameAsksWrong)

/-- 'splittallylaw.FrameAskeds': WHATEVER THE INPUT: true; the input reads as it did. -/
def frameAskedsSpec : ChangeSpec := { name := "frameAskeds", fn := fun _ => fun
  | [d1, d2] => { results := [.lit (.bool true)], args := [d1, d2] }
  | _ => none }
def frameAskedsRow : OpenClaim := { program := "ytbkciniikahjhaa", sum := "c58498f2f6a381f9246f1f49430f7da88a8fb7d5b47a94b86f495c5b184ce498", func := "splittally/splittallylaw.FrameAskeds", spec := "frameAskeds", unfollowed := true, recurses := true, apart := false }
def FrameAskedsSaid : Prop := frameAskedsRow.holds Try.pinned (OpenSpec.ofChange frameAskedsSpec)

/-- ITS FALSE NEIGHBOUR: 'it returns false'. Refute it at one input. -/
def frameAskedsWrong : ChangeSpec := { name := "frameAskeds", fn := fun _ => fun
  | [d1, d2] => { results := [.lit (.bool false)], args := [d1, d2] }
  | _ => none }
def FrameAskedsWrongFalsely : Prop := frameAskedsRow.holds Try.pinned (OpenSpec.ofChange frameAskedsWrong)

/-- 'splittallylaw.FrameRumours': WHATEVER THE INPUT: true; the input reads as it did. -/
def frameRumoursSpec : ChangeSpec := { name := "frameRumours", fn := fun _ => fun
  | [d1, d2, d3, d4] => { results := [.lit (.bool true)], args := [d1, d2, d3, d4] }
  | _ => none }
def frameRumoursRow : OpenClaim := { program := "ytbkciniikahjhaa", sum := "c58498f2f6a381f9246f1f49430f7da88a8fb7d5b47a94b86f495c5b184ce498", func := "splittally/splittallylaw.FrameRumours", spec := "frameRumours", unfollowed := true, recurses := true, apart := false }
def FrameRumoursSaid : Prop := frameRumoursRow.holds Try.pinned (OpenSpec.ofChange frameRumoursSpec)

/-- ITS FALSE NEIGHBOUR: 'it returns false'. Refute it at one input. -/
def frameRumoursWrong : ChangeSpec := { name := "frameRumours", fn := fun _ => fun
  | [d1, d2, d3, d4] => { results := [.lit (.bool false)], args := [d1, d2, d3, d4] }
  | _ => none }
def FrameRumoursWrongFalsely : Prop := frameRumoursRow.holds Try.pinned (OpenSpec.ofChange frameRumoursWrong)

/-- 'splittallylaw.FrameHeards': WHATEVER THE INPUT: true; the input reads as it did. -/
def frameHeardsSpec : ChangeSpec := { name := "frameHeards", fn := fun _ => fun
  | [d1, d2, d3, d4] => { results := [.lit (.bool true)], args := [d1, d2, d3, d4] }
  | _ => none }
def frameHeardsRow : OpenClaim := { program := "ytbkciniikahjhaa", sum := "c58498f2f6a381f9246f1f49430f7da88a8fb7d5b47a94b86f495c5b184ce498", func := "splittally/splittallylaw.FrameHeards", spec := "frameHeards", unfollowed := true, recurses := true, apart := false }
def FrameHeardsSaid : Prop := frameHeardsRow.holds Try.pinned (OpenSpec.ofChange frameHeardsSpec)

/-- ITS FALSE NEIGHBOUR: 'it returns false'. Refute it at one input. -/
def frameHeardsWrong : ChangeSpec := { name := "frameHeards", fn := fun _ => fun
  | [d1, d2, d3, d4] => { results := [.lit (.bool false)], args := [d1, d2, d3, d4] }
  | _ => none }
def FrameHeardsWrongFalsely : Prop := frameHeardsRow.holds Try.pinned (OpenSpec.ofChange frameHeardsWrong)

/-- 'splittallylaw.ViewOfs': WHATEVER THE INPUT: true; the input reads as it did. -/
def viewOfsSpec : ChangeSpec := { name := "viewOfs", fn := fun _ => fun
  | [d1, d2, d3] => { results := [.lit (.bool true)], args := [d1, d2, d3] }
  | _ => none }
def viewOfsRow : OpenClaim := { program := "ytbkciniikahjhaa", sum := "c58498f2f6a381f9246f1f49430f7da88a8fb7d5b47a94b86f495c5b184ce498", func := "splittally/splittallylaw.ViewOfs", spec := "viewOfs", unfollowed := true, recurses := true, apart := false }
def ViewOfsSaid : Prop := viewOfsRow.holds Try.pinned (OpenSpec.ofChange viewOfsSpec)

/-- ITS FALSE NEIGHBOUR: 'it returns false'. Refute it at one input. -/
def viewOfsWrong : ChangeSpec := { name := "viewOfs", fn := fun _ => fun
  | [d1, d2, d3] => { results := [.lit (.bool false)], args := [d1, d2, d3] }
  | _ => none }
def ViewOfsWrongFalsely : Prop := viewOfsRow.holds Try.pinned (OpenSpec.ofChange viewOfsWrong)

/- THE SECOND FORM. 'bulk': how many values and letters a reading holds, each counted each time it is reached (what is shared counts as often as it is met; a slice's spare places count too). A statement '..UptoSaid' is the law's where the arguments, and the package variables that the reading takes, are together of bulk at most 1048576: NARROWER than '..Said'. Prove '..Said' where nothing that the law and all that it calls make is longer than what came in: it says more and counts as full. Else prove '..UptoSaid'. A law counts once. -/
mutual
def uptoBulk {H : Type} : DataW H → Nat
  | .lit (.string bytes) => bytes.length + 1
  | .lit _ => 1
  | .nil => 1
  | .ptr d => uptoBulk d + 1
  | .slice elems spare => uptoBulkAll elems + uptoBulkAll spare + 1
  | .agg parts => uptoBulkAll parts + 1
  | .iface _ d => uptoBulk d + 1
  | .map entries => uptoBulkEntries entries + 1
  | .held _ => 1
def uptoBulkAll {H : Type} : List (DataW H) → Nat
  | [] => 0
  | d :: r => uptoBulk d + uptoBulkAll r
def uptoBulkEntries {H : Type} : List (Lit × DataW H) → Nat
  | [] => 0
  | x :: r => uptoBulkEntry x + uptoBulkEntries r
def uptoBulkEntry {H : Type} : Lit × DataW H → Nat
  | (.string bytes, d) => bytes.length + uptoBulk d + 1
  | (_, d) => uptoBulk d + 1
 end
def uptoSmall : (H : Type) → List (DataW H) → Bool := fun _ ds => decide (uptoBulkAll ds ≤ 1048576)
def OpenSpec.upto (s : _root_.Go.ChangeSpec) : _root_.Go.OpenSpec := { _root_.Go.OpenSpec.ofChange s with cond := some uptoSmall }

/-- 'splittallylaw.FrameMays', WHERE WHAT IT READS IS OF BULK AT MOST 1048576: true; the input reads as it did. -/
def frameMaysUptoRow : OpenClaim := { program := "ytbkciniikahjhaa", sum := "c58498f2f6a381f9246f1f49430f7da88a8fb7d5b47a94b86f495c5b184ce498", func := "splittally/splittallylaw.FrameMays", spec := "frameMays", unfollowed := true, recurses := true, apart := false, narrowed := true }
def FrameMaysUptoSaid : Prop := frameMaysUptoRow.holds Try.pinned (OpenSpec.upto frameMaysSpec)

/-- 'splittallylaw.FrameAsks', WHERE WHAT IT READS IS OF BULK AT MOST 1048576: true; the input reads as it did. -/
def frameAsksUptoRow : OpenClaim := { program := "ytbkciniikahjhaa", sum := "c58498f2f6a381f9246f1f49430f7da88a8fb7d5b47a94b86f495c5b184ce498", func := "splittally/splittallylaw.FrameAsks", spec := "frameAsks", unfollowed := true, recurses := true, apart := false, narrowed := true }
def FrameAsksUptoSaid : Prop := frameAsksUptoRow.holds Try.pinned (OpenSpec.upto frameAsksSpec)

/-- 'splittallylaw.FrameAskeds', WHERE WHAT IT READS IS OF BULK AT MOST 1048576: true; the input reads as it did. -/
def frameAskedsUptoRow : OpenClaim := { program := "ytbkciniikahjhaa", sum := "c58498f2f6a381f9246f1f49430f7da88a8fb7d5b47a94b86f495c5b184ce498", func := "splittally/splittallylaw.FrameAskeds", spec := "frameAskeds", unfollowed := true, recurses := true, apart := false, narrowed := true }
def FrameAskedsUptoSaid : Prop := frameAskedsUptoRow.holds Try.pinned (OpenSpec.upto frameAskedsSpec)

/-- 'splittallylaw.FrameRumours', WHERE WHAT IT READS IS OF BULK AT MOST 1048576: true; the input reads as it did. -/
def frameRumoursUptoRow : OpenClaim := { program := "ytbkciniikahjhaa", sum := "c58498f2f6a381f9246f1f49430f7da88a8fb7d5b47a94b86f495c5b184ce498", func := "splittally/splittallylaw.FrameRumours", spec := "frameRumours", unfollowed := true, recurses := true, apart := false, narrowed := true }
def FrameRumoursUptoSaid : Prop := frameRumoursUptoRow.holds Try.pinned (OpenSpec.upto frameRumoursSpec)

/-- 'splittallylaw.FrameHeards', WHERE WHAT IT READS IS OF BULK AT MOST 1048576: true; the input reads as it did. -/
def frameHeardsUptoRow : OpenClaim := { program := "ytbkciniikahjhaa", sum := "c58498f2f6a381f9246f1f49430f7da88a8fb7d5b47a94b86f495c5b184ce498", func := "splittally/splittallylaw.FrameHeards", spec := "frameHeards", unfollowed := true, recurses := true, apart := false, narrowed := true }
def FrameHeardsUptoSaid : Prop := frameHeardsUptoRow.holds Try.pinned (OpenSpec.upto frameHeardsSpec)

/-- 'splittallylaw.ViewOfs', WHERE WHAT IT READS IS OF BULK AT MOST 1048576: true; the input reads as it did. -/
def viewOfsUptoRow : OpenClaim := { program := "ytbkciniikahjhaa", sum := "c58498f2f6a381f9246f1f49430f7da88a8fb7d5b47a94b86f495c5b184ce498", func := "splittally/splittallylaw.ViewOfs", spec := "viewOfs", unfollowed := true, recurses := true, apart := false, narrowed := true }
def ViewOfsUptoSaid : Prop := viewOfsUptoRow.holds Try.pinned (OpenSpec.upto viewOfsSpec)

end Rows
end Go.Proofs.Ytbkciniikahjhaa
