/- The reference's rounds, plainly: what one scan finds, what one payment gives. Conditions: none beyond what each theorem states. -/
import Derived.Test.YtiljallignlbgaaShareP
namespace Go.Proofs.Ytiljallignlbgaa
set_option linter.unusedVariables false

def scan : List Int → List Int → Int → Int → Int × Int
  | w :: ws, o :: os, op, st => if o < w then scan ws os (op + 1) (if st = 0 ∨ w - o < st then w - o else st) else scan ws os op st
  | _, _, op, st => (op, st)
def pay (s : Int) : List Int → List Int → Int → Int → List Int × Int
  | w :: ws, o :: os, one, t =>
    if o < w then
      if 0 < s then let r := pay s ws os one (t - s); ((o + s) :: r.1, r.2)
      else if 0 < one then let r := pay s ws os (one - 1) (t - 1); ((o + 1) :: r.1, r.2)
      else let r := pay s ws os one t; (o :: r.1, r.2)
    else let r := pay s ws os one t; (o :: r.1, r.2)
  | _, _, _, t => ([], t)
def minL (ws : List Int) (c : Int) : List Int := ws.map fun w => min w c

theorem minL_cons (w : Int) (ws : List Int) (c : Int) : minL (w :: ws) c = min w c :: minL ws c := rfl
theorem scan_spec (ws : List Int) (c : Int) : ∀ (op st : Int), 0 ≤ op → 0 ≤ st → (op = 0 ↔ st = 0) →
    (scan ws (minL ws c) op st).1 = op + opens ws c ∧ 0 ≤ (scan ws (minL ws c) op st).2 ∧
    (op + opens ws c = 0 ↔ (scan ws (minL ws c) op st).2 = 0) ∧ (0 < st → (scan ws (minL ws c) op st).2 ≤ st) ∧ ∀ w ∈ ws, c < w → c + (scan ws (minL ws c) op st).2 ≤ w := by
  induction ws with
  | nil => intro op st h0 h1 h2; simp [scan, opens]; exact ⟨h1, h2⟩
  | cons w l ih =>
    intro op st h0 h1 h2
    rw [minL_cons, opens_cons]
    by_cases hc : c < w
    · have e : min w c = c := by omega
      rw [e, scan, if_pos hc, if_pos hc]
      have h3 : 0 < (if st = 0 ∨ w - c < st then w - c else st) := by split <;> omega
      obtain ⟨i1, i2, i3, i4, i5⟩ := ih (op + 1) (if st = 0 ∨ w - c < st then w - c else st) (by omega) (by omega) (by omega)
      have h4 := i4 h3
      have h5 : (if st = 0 ∨ w - c < st then w - c else st) ≤ w - c := by split <;> omega
      have h6 : 0 < st → (if st = 0 ∨ w - c < st then w - c else st) ≤ st := by intro h; split <;> omega
      refine ⟨by omega, i2, ?_, fun h => by have := h6 h; omega, ?_⟩
      · constructor
        · intro h; omega
        · intro h; have := i3.2 h; omega
      · intro x hx hcx
        rcases List.mem_cons.1 hx with rfl | hx
        · omega
        · exact i5 x hx hcx
    · have e : min w c = w := by omega
      rw [e, scan, if_neg (by omega), if_neg hc]
      obtain ⟨i1, i2, i3, i4, i5⟩ := ih op st h0 h1 h2
      refine ⟨by simpa using i1, i2, by simpa using i3, i4, ?_⟩
      intro x hx hcx
      rcases List.mem_cons.1 hx with rfl | hx
      · exact absurd hcx hc
      · exact i5 x hx hcx
theorem pay_step (ws : List Int) (c s : Int) (hs : 0 < s) (h : ∀ w ∈ ws, c < w → c + s ≤ w) : ∀ one t, pay s ws (minL ws c) one t = (minL ws (c + s), t - s * opens ws c) := by
  induction ws with
  | nil => intro one t; simp [pay, minL, opens]
  | cons w l ih =>
    intro one t
    have h1 := h w (by simp)
    have i := ih (fun y hy => h y (by simp [hy]))
    rw [minL_cons, minL_cons, opens_cons]
    by_cases hc : c < w
    · have := h1 hc
      have e : min w c = c := by omega
      have e2 : min w (c + s) = c + s := by omega
      rw [e, e2, pay, if_pos hc, if_pos hs, if_pos hc, i]
      simp only [Prod.mk.injEq, true_and]
      rw [Int.natCast_add, Int.mul_add]
      simp only [Int.natCast_one, Int.mul_one]
      omega
    · have e : min w c = w := by omega
      have e2 : min w (c + s) = w := by omega
      rw [e, e2, pay, if_neg (by omega), if_neg hc, i]
      simp
theorem pay_one (ws : List Int) (c : Int) : ∀ r t, 0 ≤ r → pay 0 ws (minL ws c) r t = (greedy c r ws, t - min r (opens ws c)) := by
  induction ws with
  | nil => intro r t hr; simp [pay, opens, greedy]; omega
  | cons w l ih =>
    intro r t hr
    rw [minL_cons, opens_cons, greedy]
    by_cases hc : c < w
    · have e : min w c = c := by omega
      by_cases hr0 : 0 < r
      · rw [e, pay, if_pos hc, if_neg (by omega), if_pos hr0, if_pos hc, if_pos ⟨hc, hr0⟩, ih _ _ (by omega)]
        simp only [Prod.mk.injEq, true_and]
        omega
      · rw [e, pay, if_pos hc, if_neg (by omega), if_neg hr0, if_pos hc, if_neg (by omega), ih _ _ hr]
        simp only [Prod.mk.injEq, true_and]
        omega
    · have e : min w c = w := by omega
      rw [e, pay, if_neg (by omega), if_neg hc, if_neg (by omega), ih _ _ hr]
      simp
theorem greedy_zero (ws : List Int) (c : Int) : greedy c 0 ws = minL ws c := by
  induction ws with
  | nil => rfl
  | cons w l ih => rw [greedy, if_neg (by omega), ih, minL_cons]
theorem pay_len (s : Int) : ∀ (ws os : List Int) (one t : Int), os.length = ws.length → (pay s ws os one t).1.length = os.length := by
  intro ws
  induction ws with
  | nil => intro os one t h; cases os with
    | nil => rfl
    | cons => simp at h
  | cons w l ih =>
    intro os one t h
    cases os with
    | nil => simp at h
    | cons o os =>
      have := fun one t => ih os one t (by simpa using h)
      rw [pay]
      split
      · split
        · simp [this]
        · split <;> simp [this]
      · simp [this]

/-- the state of the reference's rounds: what each has, and what is left -/
def Round (total : Int) (ws os : List Int) (t : Int) : Prop :=
  os.length = ws.length ∧ 0 ≤ t ∧ t ≤ total ∧ (∀ (k : Nat) (w o : Int), ws[k]? = some w → os[k]? = some o → 0 ≤ o ∧ o ≤ w) ∧
  ((∃ c, 0 ≤ c ∧ os = minL ws c ∧ t = total - leastL ws c) ∨ (t = 0 ∧ os = gives total ws))
theorem minL_bounds (ws : List Int) (hw : ∀ w ∈ ws, 0 ≤ w ∧ w ≤ 1048576) (c : Int) (hc : 0 ≤ c) (k : Nat) (w o : Int) (h : ws[k]? = some w) (h2 : (minL ws c)[k]? = some o) : 0 ≤ o ∧ o ≤ w := by
  have := hw w (List.mem_of_getElem? h)
  rw [minL, List.getElem?_map, h] at h2
  injection h2 with h2
  subst h2
  show 0 ≤ min w c ∧ min w c ≤ w
  omega
theorem greedy_bounds (ws : List Int) (hw : ∀ w ∈ ws, 0 ≤ w ∧ w ≤ 1048576) (c : Int) (hc : 0 ≤ c) : ∀ (r : Int) (k : Nat) (w o : Int), ws[k]? = some w → (greedy c r ws)[k]? = some o → 0 ≤ o ∧ o ≤ w := by
  induction ws with
  | nil => intro r k w o h; simp at h
  | cons x l ih =>
    intro r k w o h h2
    have hx := hw x (by simp)
    have i := ih (fun y hy => hw y (by simp [hy]))
    rw [greedy] at h2
    cases k with
    | zero =>
      simp at h; subst h
      split at h2
      · simp at h2; omega
      · simp at h2; omega
    | succ k =>
      simp at h
      split at h2
      · exact i _ k w o h (by simpa using h2)
      · exact i _ k w o h (by simpa using h2)
theorem round_start (total : Int) (ws : List Int) (ht : 0 ≤ total) (hw : ∀ w ∈ ws, 0 ≤ w ∧ w ≤ 1048576) : Round total ws (List.replicate ws.length 0) total := by
  have e : List.replicate ws.length (0 : Int) = minL ws 0 := by
    unfold minL
    rw [← List.map_const']
    refine (List.map_congr_left fun w h => ?_)
    have := hw w h
    show 0 = min w 0
    omega
  rw [e]
  exact ⟨by simp [minL], ht, Int.le_refl _, minL_bounds ws hw 0 (Int.le_refl _), .inl ⟨0, Int.le_refl _, rfl, by rw [leastL_zero ws fun w h => (hw w h).1]; omega⟩⟩
theorem round_done (total : Int) (ws os : List Int) (t : Int) (ht : 0 ≤ total) (hw : ∀ w ∈ ws, 0 ≤ w ∧ w ≤ 1048576) (h : Round total ws os t) (he : (scan ws os 0 0).1 = 0 ∨ t = 0) : os = gives total ws := by
  obtain ⟨_, t0, _, _, ⟨c, c0, rfl, rfl⟩ | ⟨_, rfl⟩⟩ := h
  · obtain ⟨s1, s2, s3, _, s5⟩ := scan_spec ws c 0 0 (Int.le_refl _) (Int.le_refl _) (by simp)
    by_cases ho : opens ws c = 0
    · have hall := opens_zero ws c ho
      rw [← gives_level total ws ht hw c ⟨c0, by omega, .inr hall⟩, greedy_all ws c _ hall]
      unfold minL
      conv => rhs; rw [← List.map_id ws]
      exact List.map_congr_left fun w h => by have := hall w h; show min w c = w; omega
    · have he : total - leastL ws c = 0 := by
        rcases he with he | he
        · omega
        · exact he
      have hst : 0 < (scan ws (minL ws c) 0 0).2 := by
        rcases Int.lt_or_eq_of_le s2 with h | h
        · exact h
        · have := s3.2 h.symm; omega
      have h1 := leastL_step ws c 1 (by omega) (fun w hw hc => by omega)
      rw [← gives_level total ws ht hw c ⟨c0, by omega, .inl (by omega)⟩, he, greedy_zero]
  · rfl
theorem div_facts (t o s : Int) (ho : 0 < o) (ht : 0 < t) (hs : 0 < s) (h : t < s * o) : 0 ≤ t / o ∧ t / o ≤ s ∧ t / o * o ≤ t ∧ t < (t / o + 1) * o := by
  have h1 := Int.ediv_mul_le t (Int.ne_of_gt ho)
  have h2 := Int.lt_ediv_add_one_mul_self t ho
  have h3 := Int.ediv_nonneg (Int.le_of_lt ht) (Int.le_of_lt ho)
  refine ⟨h3, ?_, h1, h2⟩
  refine Int.not_lt.1 fun hc => ?_
  have := Int.mul_le_mul_of_nonneg_right (show s ≤ t / o by omega) (Int.le_of_lt ho)
  omega
/-- one round: the state behind it, and less is left -/
theorem round_step (total : Int) (ws os : List Int) (t st : Int) (ht : 0 ≤ total) (hw : ∀ w ∈ ws, 0 ≤ w ∧ w ≤ 1048576) (h : Round total ws os t) (h1 : (scan ws os 0 0).1 ≠ 0) (h2 : t ≠ 0)
    (hst : st = if t < (scan ws os 0 0).2 * (scan ws os 0 0).1 then t / (scan ws os 0 0).1 else (scan ws os 0 0).2) :
    Round total ws (pay st ws os (if st = 0 then t else 0) t).1 (pay st ws os (if st = 0 then t else 0) t).2 ∧ (pay st ws os (if st = 0 then t else 0) t).2 < t := by
  obtain ⟨hlen, t0, t1, hbb, ⟨c, c0, rfl, rfl⟩ | ⟨h0, rfl⟩⟩ := h
  · obtain ⟨s1, s2, s3, _, s5⟩ := scan_spec ws c 0 0 (Int.le_refl _) (Int.le_refl _) (by simp)
    rw [Int.zero_add] at s1 s3
    obtain ⟨g, hg⟩ : ∃ g, (scan ws (minL ws c) 0 0).2 = g := ⟨_, rfl⟩
    rw [s1] at h1 hst
    rw [hg] at s2 s3 s5 hst
    have ho : (0 : Int) < opens ws c := by omega
    have hg0 : 0 < g := by
      rcases Int.lt_or_eq_of_le s2 with h | h
      · exact h
      · have := s3.2 h.symm; omega
    have hsg : 0 ≤ st ∧ st ≤ g ∧ st * opens ws c ≤ total - leastL ws c ∧ (st = 0 → total - leastL ws c < opens ws c) := by
      subst hst
      split
      · rename_i hlt
        have := div_facts _ _ _ ho (by omega) hg0 hlt
        refine ⟨this.1, this.2.1, this.2.2.1, fun e => ?_⟩
        have h4 := this.2.2.2
        rw [e] at h4
        omega
      · exact ⟨s2, Int.le_refl _, by omega, by omega⟩
    by_cases hs0 : st = 0
    · subst hs0
      rw [if_pos rfl, pay_one ws c _ _ t0]
      have h4 := hsg.2.2.2 rfl
      have hl : leastL ws (c + 1) = leastL ws c + 1 * opens ws c := leastL_step ws c 1 (by omega) (fun w hw hc => by omega)
      have hgv := gives_level total ws ht hw c ⟨c0, by omega, .inl (by omega)⟩
      have e0 : (total - leastL ws c) - min (total - leastL ws c) (opens ws c) = 0 := by omega
      refine ⟨⟨by rw [greedy_len], by dsimp only; omega, by dsimp only; omega, greedy_bounds ws hw c c0 _, .inr ⟨e0, hgv⟩⟩, by dsimp only; omega⟩
    · have hs : 0 < st := by omega
      have hall : ∀ w ∈ ws, c < w → c + st ≤ w := fun w hw hc => by have := s5 w hw hc; omega
      rw [pay_step ws c st hs hall]
      have hl := leastL_step ws c st (by omega) hall
      have hpos : 0 < st * opens ws c := Int.mul_pos hs ho
      refine ⟨⟨by simp [minL], by dsimp only; omega, by dsimp only; omega, minL_bounds ws hw _ (by omega), .inl ⟨c + st, by omega, rfl, by dsimp only; omega⟩⟩, by dsimp only; omega⟩
  · exact absurd h0 h2
end Go.Proofs.Ytiljallignlbgaa
