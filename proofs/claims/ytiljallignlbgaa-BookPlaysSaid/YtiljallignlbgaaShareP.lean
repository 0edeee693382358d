/- Max-min fair division, plainly: the level, what each gets, and that any level with the defining property gives the same. Conditions: none beyond what each theorem states. -/
import Derived.Test.YtiljallignlbgaaMem
import Derived.Test.YtiljallignlbgaaKit
namespace Go.Proofs.Ytiljallignlbgaa
open Go.RowKit
set_option linter.unusedVariables false

def leastL : List Int → Int → Int
  | [], _ => 0
  | w :: l, c => min w c + leastL l c
def greedy (c : Int) : Int → List Int → List Int
  | _, [] => []
  | r, w :: l => if c < w ∧ 0 < r then (c + 1) :: greedy c (r - 1) l else min w c :: greedy c r l
def inRange (z : Int) : Bool := decide (0 ≤ z ∧ z ≤ 1048576)
def IsLevel (total : Int) (ws : List Int) (c : Int) : Prop := 0 ≤ c ∧ leastL ws c ≤ total ∧ (total < leastL ws (c + 1) ∨ ∀ w ∈ ws, w ≤ c)
def lvlTo (total : Int) (ws : List Int) : Nat → Nat
  | 0 => 0
  | n + 1 => if leastL ws ((n + 1 : Nat) : Int) ≤ total then n + 1 else lvlTo total ws n
def gives (total : Int) (ws : List Int) : List Int := greedy (lvlTo total ws 1048576) (total - leastL ws (lvlTo total ws 1048576)) ws
def splitP (total : Int) (ws : List Int) : List Int × Int :=
  if 16 < ws.length then ([], 1) else if (inRange total && ws.all inRange) then (gives total ws, 0) else ([], 2)

theorem leastL_mono (ws : List Int) (c d : Int) (h : c ≤ d) : leastL ws c ≤ leastL ws d := by
  induction ws with
  | nil => exact Int.le_refl _
  | cons w l ih => simp only [leastL]; omega
theorem leastL_all (ws : List Int) (c : Int) (h : ∀ w ∈ ws, w ≤ c) (d : Int) : leastL ws d ≤ leastL ws c := by
  induction ws with
  | nil => exact Int.le_refl _
  | cons w l ih =>
    have := h w (by simp)
    have := ih (fun y hy => h y (by simp [hy]))
    simp only [leastL]; omega
theorem leastL_bounds (ws : List Int) (h : ∀ w ∈ ws, 0 ≤ w ∧ w ≤ 1048576) (c : Int) (hc : 0 ≤ c) : 0 ≤ leastL ws c ∧ leastL ws c ≤ 1048576 * ws.length := by
  induction ws with
  | nil => simp [leastL]
  | cons w l ih =>
    have h1 := h w (by simp)
    have h2 := ih (fun y hy => h y (by simp [hy]))
    simp only [leastL, List.length_cons]
    omega
theorem leastL_zero (ws : List Int) (h : ∀ w ∈ ws, 0 ≤ w) : leastL ws 0 = 0 := by
  induction ws with
  | nil => rfl
  | cons w l ih =>
    have h1 := h w (by simp)
    have h2 := ih (fun y hy => h y (by simp [hy]))
    simp only [leastL, h2]; omega
theorem greedy_all (ws : List Int) (c r : Int) (h : ∀ w ∈ ws, w ≤ c) : greedy c r ws = ws := by
  induction ws generalizing r with
  | nil => rfl
  | cons w l ih =>
    have h1 := h w (by simp)
    rw [greedy, if_neg (by omega), ih r (fun y hy => h y (by simp [hy]))]
    congr 1
    omega
theorem level_unique (total : Int) (ws : List Int) (c d : Int) (hc : IsLevel total ws c) (hd : IsLevel total ws d) : greedy c (total - leastL ws c) ws = greedy d (total - leastL ws d) ws := by
  obtain ⟨c0, c1, c2⟩ := hc
  obtain ⟨d0, d1, d2⟩ := hd
  rcases c2 with c2 | c2 <;> rcases d2 with d2 | d2
  · have : c = d := by
      rcases Int.lt_trichotomy c d with h | h | h
      · have := leastL_mono ws (c + 1) d (by omega); omega
      · exact h
      · have := leastL_mono ws (d + 1) c (by omega); omega
    rw [this]
  · have := leastL_all ws d d2 (c + 1); omega
  · have := leastL_all ws c c2 (d + 1); omega
  · rw [greedy_all ws c _ c2, greedy_all ws d _ d2]
theorem lvlTo_level (total : Int) (ws : List Int) (ht : 0 ≤ total) (h : ∀ w ∈ ws, 0 ≤ w ∧ w ≤ 1048576) : IsLevel total ws (lvlTo total ws 1048576) := by
  have H : ∀ n, leastL ws (lvlTo total ws n) ≤ total ∧ (lvlTo total ws n = n ∨ total < leastL ws ((lvlTo total ws n : Int) + 1)) := by
    intro n
    induction n with
    | zero => exact ⟨by rw [lvlTo]; have := leastL_zero ws (fun w hw => (h w hw).1); simpa [this] using ht, .inl rfl⟩
    | succ n ih =>
      rw [lvlTo]
      by_cases hc : leastL ws ((n + 1 : Nat) : Int) ≤ total
      · rw [if_pos hc]; exact ⟨hc, .inl rfl⟩
      · rw [if_neg hc]
        refine ⟨ih.1, .inr ?_⟩
        rcases ih.2 with e | e
        · rw [e]; simpa using Int.not_le.1 hc
        · exact e
  obtain ⟨h1, h2⟩ := H 1048576
  refine ⟨by omega, h1, ?_⟩
  rcases h2 with e | e
  · right
    intro w hw
    rw [e]
    exact (h w hw).2
  · exact .inl e
theorem gives_level (total : Int) (ws : List Int) (ht : 0 ≤ total) (h : ∀ w ∈ ws, 0 ≤ w ∧ w ≤ 1048576) (c : Int) (hc : IsLevel total ws c) : greedy c (total - leastL ws c) ws = gives total ws :=
  level_unique total ws _ _ hc (lvlTo_level total ws ht h)
theorem greedy_len (c r : Int) (ws : List Int) : (greedy c r ws).length = ws.length := by
  induction ws generalizing r with
  | nil => rfl
  | cons w l ih => rw [greedy]; split <;> simp [ih]
theorem inRange_all (ws : List Int) : ws.all inRange = true ↔ ∀ w ∈ ws, 0 ≤ w ∧ w ≤ 1048576 := by
  simp [List.all_eq_true, inRange]

/-! ### The reference's way: levels step by step -/
/-- how many want more than c -/
def opens (ws : List Int) (c : Int) : Nat := (ws.filter fun w => decide (c < w)).length
theorem opens_cons (w : Int) (ws : List Int) (c : Int) : opens (w :: ws) c = opens ws c + if c < w then 1 else 0 := by
  unfold opens
  by_cases h : c < w <;> simp [h]
theorem leastL_step (ws : List Int) (c s : Int) (hs : 0 ≤ s) (h : ∀ w ∈ ws, c < w → c + s ≤ w) : leastL ws (c + s) = leastL ws c + s * opens ws c := by
  induction ws with
  | nil => simp [leastL, opens]
  | cons w l ih =>
    have h1 := h w (by simp)
    have h2 := ih (fun y hy => h y (by simp [hy]))
    rw [opens_cons]
    simp only [leastL, h2]
    by_cases hw : c < w
    · have := h1 hw
      rw [if_pos hw]
      rw [Int.natCast_add, Int.mul_add]
      simp only [Int.natCast_one, Int.mul_one]
      omega
    · rw [if_neg hw]
      simp only [Nat.add_zero]
      omega
theorem opens_zero (ws : List Int) (c : Int) (h : opens ws c = 0) : ∀ w ∈ ws, w ≤ c := by
  intro w hw
  have : (ws.filter fun w => decide (c < w)) = [] := List.eq_nil_of_length_eq_zero h
  have h2 := List.filter_eq_nil_iff.1 this w hw
  simp at h2
  exact h2
theorem opens_le (ws : List Int) (c : Int) : opens ws c ≤ ws.length := by
  unfold opens; exact List.length_filter_le _ _
end Go.Proofs.Ytiljallignlbgaa
