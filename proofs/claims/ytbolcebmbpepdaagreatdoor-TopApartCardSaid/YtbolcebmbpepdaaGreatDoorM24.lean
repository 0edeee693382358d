/- Contracts and plain facts, set together by program out of smaller texts. Conditions: none beyond what each theorem states. -/
import Derived.Deep.Onto
import Derived.Test.YtbolcebmbpepdaaGreatDoorM12
import Derived.Test.YtbolcebmbpepdaaGreatDoorM17
namespace Go.Proofs.YtbolcebmbpepdaaGreatDoor
set_option linter.unusedVariables false
section
open Go.RowKit
def EntsPost (r : List Ent × Int) (e : Ending) (w w' : World) : Prop :=
 ∃ v : Value, e = .returned (.tuple #[v, .int .i64 r.2]) ∧ w'.ownsRow w.heap.size 125 5 v r.1.length (r.1.flatMap zAd) ∧ Below w.heap.size w w'
end
end Go.Proofs.YtbolcebmbpepdaaGreatDoor
