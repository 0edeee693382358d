/- Contracts and plain facts, set together by program out of smaller texts. Conditions: none beyond what each theorem states. -/
import Derived.Test.YtbolcebmbpepdaaGreatDoorM01
namespace Go.Proofs.YtbolcebmbpepdaaGreatDoor
set_option linter.unusedVariables false
section
open Go.RowKit
def nilRow (n : Nat) : Array Value := (List.replicate n (Value.slice none 0 0)).toArray
theorem made_get (z : Array Value) (N i : Nat) (hz : 0 < z.size) (h : i < N) : (madeCells z N)[i]? = z[i % z.size]? := by
 unfold madeCells
 rw [Array.getElem?_map, Array.getElem?_range, if_pos h]
 have := Nat.mod_lt i hz
 simp [this]
theorem made_nil (n : Nat) (z : Array Value) (hc : z.toList = [Value.slice none 0 0]) : madeCells z n = nilRow n := by
 unfold nilRow
 have hs : z.size = 1 := by have := congrArg List.length hc; simpa using this
 apply array_ext
 intro i
 rcases Nat.lt_or_ge i n with h | h
 ·have e : z[0]? = z.toList[0]? := by simp
  rw [made_get z _ i (by omega) h, hs, Nat.mod_one, e, hc]
  simp [h]
 ·rw [Array.getElem?_eq_none (by rw [size_madeCells]; exact h), Array.getElem?_eq_none (by simpa using h)]
end
end Go.Proofs.YtbolcebmbpepdaaGreatDoor
