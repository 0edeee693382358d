/- The clocks of events, plainly: what the events hang on, the rows that count it, and how a step of the program comes to the next row. Conditions: none beyond what each theorem states. -/
import Derived.Test.YtickpflebmecpaaClockC
import Derived.Test.YtickpflebmecpaaClockD
namespace Go.Proofs.Ytickpflebmecpaa
open Go.RowKit
set_option linter.unusedVariables false

section
variable {dep : Nat → Nat → Bool}
/-- of each of the first events, what it hangs on -/
def Hs (dep : Nat → Nat → Bool) : Nat → List (Nat → Bool)
  | 0 => []
  | i + 1 => Hs dep i ++ [fun j => j == i || (List.range i).any fun k => dep i k && ((Hs dep i)[k]?.getD fun _ => false) j]
def Hg (dep : Nat → Nat → Bool) (i : Nat) : Nat → Bool := (Hs dep (i + 1))[i]?.getD fun _ => false
theorem Hs_len (m : Nat) : (Hs dep m).length = m := by
  induction m with
  | zero => rfl
  | succ m ih => simp [Hs, ih]
theorem Hs_last (i : Nat) : (Hs dep (i + 1))[i]? = some fun j => j == i || (List.range i).any fun k => dep i k && ((Hs dep i)[k]?.getD fun _ => false) j := by
  rw [Hs, List.getElem?_append_right (by rw [Hs_len]; exact Nat.le_refl _), Hs_len, Nat.sub_self]
  rfl
theorem Hs_get {i m : Nat} (h : i < m) : (Hs dep m)[i]? = some (Hg dep i) := by
  induction m with
  | zero => omega
  | succ m ih =>
    rcases Nat.lt_or_ge i m with h1 | h1
    · rw [Hs, List.getElem?_append_left (by rw [Hs_len]; exact h1)]
      exact ih h1
    · obtain rfl : i = m := by omega
      unfold Hg
      rw [Hs_last]
      rfl
theorem any_congr {α : Type} {l : List α} {f g : α → Bool} (h : ∀ x ∈ l, f x = g x) : l.any f = l.any g := by
  induction l with
  | nil => rfl
  | cons x l ih => rw [List.any_cons, List.any_cons, h x (by simp), ih fun y hy => h y (by simp [hy])]
theorem Hg_eq (i j : Nat) : Hg dep i j = (j == i || (List.range i).any fun k => dep i k && Hg dep k j) := by
  have e : Hg dep i j = (j == i || (List.range i).any fun k => dep i k && ((Hs dep i)[k]?.getD fun _ => false) j) := by
    conv => lhs; unfold Hg; rw [Hs_last]
    rfl
  rw [e]
  congr 1
  refine any_congr fun k hk => ?_
  rw [Hs_get (List.mem_range.1 hk)]
  rfl
end

def whoF (es : List Ev) (i : Nat) : Int := (es.getD i default).w
def srcF (es : List Ev) (i : Nat) : Option Nat := if (es.getD i default).k = 3 then some (es.getD i default).o.toNat else none
def depF (es : List Ev) (i k : Nat) : Bool := decide (whoF es k = whoF es i) || decide (srcF es i = some k)
theorem hangsF (es : List Ev) (n : Nat) : Hangs (whoF es) (srcF es) (Hg (depF es)) n := by
  intro i _ j
  rw [Hg_eq, Bool.or_eq_true, List.any_eq_true]
  constructor
  · rintro (h | ⟨k, hk, h⟩)
    · exact .inl (by simpa using h)
    · rw [Bool.and_eq_true] at h
      refine .inr ⟨k, List.mem_range.1 hk, ?_, h.2⟩
      have := h.1
      unfold depF at this
      rw [Bool.or_eq_true] at this
      rcases this with h | h
      · exact .inl (of_decide_eq_true h)
      · exact .inr (of_decide_eq_true h)
  · rintro (h | ⟨k, hk, h, hj⟩)
    · exact .inl (by simpa using h)
    · refine .inr ⟨k, List.mem_range.2 hk, ?_⟩
      rw [Bool.and_eq_true]
      refine ⟨?_, hj⟩
      unfold depF
      rw [Bool.or_eq_true]
      rcases h with h | h
      · exact .inl (decide_eq_true h)
      · exact .inr (decide_eq_true h)

def cntRow (es : List Ev) (sites : Nat) (P : Nat → Bool) (n : Nat) : List Int := (List.range sites).map fun s => ((cntS (whoF es) P ((s : Nat) : Int) n : Nat) : Int)
/-- the clock of event i -/
def clkRow (es : List Ev) (sites : Nat) (i : Nat) : List Int := cntRow es sites (Hg (depF es) i) (i + 1)
/-- the clock that site s has behind i events -/
def nowF (es : List Ev) (sites : Nat) : Nat → Nat → List Int
  | 0, _ => List.replicate sites 0
  | i + 1, s => if whoF es i = (s : Int) then clkRow es sites i else nowF es sites i s
theorem cntRow_len (es : List Ev) (sites n : Nat) (P : Nat → Bool) : (cntRow es sites P n).length = sites := by simp [cntRow]
theorem clkRow_len (es : List Ev) (sites i : Nat) : (clkRow es sites i).length = sites := cntRow_len _ _ _ _
theorem nowF_len (es : List Ev) (sites i s : Nat) : (nowF es sites i s).length = sites := by
  induction i with
  | zero => simp [nowF]
  | succ i ih => unfold nowF; split; exact clkRow_len _ _ _; exact ih
theorem cntS_le (who : Nat → Int) (P : Nat → Bool) (s : Int) (n : Nat) : cntS who P s n ≤ n := by
  induction n with
  | zero => exact Nat.le_refl _
  | succ n ih => unfold cntS; split <;> omega
theorem cntS_false (who : Nat → Int) (s : Int) (n : Nat) : cntS who (fun _ => false) s n = 0 := by
  induction n with
  | zero => rfl
  | succ n ih => unfold cntS; rw [ih]; simp
theorem cntRow_whole {es : List Ev} {sites i m : Nat} (h : i + 1 ≤ m) : cntRow es sites (Hg (depF es) i) m = clkRow es sites i := by
  unfold clkRow cntRow
  refine List.map_congr_left fun s _ => ?_
  rw [(hangsF es (i + 1)).whole (i := i) (by omega) h]
theorem cntRow_false (es : List Ev) (sites n : Nat) : cntRow es sites (fun _ => false) n = List.replicate sites 0 := by
  unfold cntRow
  apply List.ext_getElem
  · simp
  · intro i h1 h2
    simp [cntS_false]
theorem nowF_spec (es : List Ev) (sites : Nat) (s : Nat) : ∀ i, ∃ A : Nat → Bool,
    ((∃ l, l < i ∧ whoF es l = s ∧ (∀ k, l < k → k < i → whoF es k ≠ s) ∧ A = Hg (depF es) l) ∨ ((∀ k, k < i → whoF es k ≠ s) ∧ A = fun _ => false)) ∧ nowF es sites i s = cntRow es sites A i
  | 0 => ⟨fun _ => false, .inr ⟨fun k hk => by omega, rfl⟩, by rw [cntRow_false]; rfl⟩
  | i + 1 => by
    by_cases h : whoF es i = (s : Int)
    · refine ⟨Hg (depF es) i, .inl ⟨i, by omega, h, fun k h1 h2 => by omega, rfl⟩, ?_⟩
      unfold nowF
      rw [if_pos h]
      rfl
    · obtain ⟨A, hA, hr⟩ := nowF_spec es sites s i
      have e : nowF es sites (i + 1) s = nowF es sites i s := by conv => lhs; unfold nowF; rw [if_neg h]
      refine ⟨A, ?_, ?_⟩
      · rcases hA with ⟨l, h1, h2, h3, h4⟩ | ⟨h1, h2⟩
        · refine .inl ⟨l, by omega, h2, fun k hk hk2 => ?_, h4⟩
          by_cases hki : k = i
          · rw [hki]; exact h
          · exact h3 k hk (by omega)
        · refine .inr ⟨fun k hk => ?_, h2⟩
          by_cases hki : k = i
          · rw [hki]; exact h
          · exact h1 k (by omega)
      · rw [e, hr]
        rcases hA with ⟨l, h1, _, _, rfl⟩ | ⟨_, rfl⟩
        · rw [cntRow_whole (by omega), cntRow_whole (by omega)]
        · rw [cntRow_false, cntRow_false]
theorem cntRow_get {es : List Ev} {sites n s : Nat} {P : Nat → Bool} (h : s < sites) : (cntRow es sites P n)[s]? = some ((cntS (whoF es) P (s : Int) n : Nat) : Int) := by
  unfold cntRow
  rw [List.getElem?_map, List.getElem?_range h]
  rfl
/-- a step: the site's row, joined with the heard one's, and one more at its own place -/
theorem clk_step {es : List Ev} {sites i p : Nat} {c1 : List Int} (hw : whoF es i = (p : Int)) (hp : p < sites)
    (h : (∃ o, o < i ∧ srcF es i = some o ∧ c1 = maxL (nowF es sites i p) (clkRow es sites o)) ∨ (srcF es i = none ∧ c1 = nowF es sites i p)) :
    ∃ z, c1[p]? = some z ∧ 0 ≤ z ∧ z ≤ i ∧ c1.set p (z + 1) = clkRow es sites i ∧ c1.length = sites := by
  obtain ⟨A, hA, hr⟩ := nowF_spec es sites p i
  obtain ⟨B, hB, hc⟩ : ∃ B : Nat → Bool, ((∃ k, k < i ∧ srcF es i = some k ∧ B = Hg (depF es) k) ∨ ((∀ k, k < i → srcF es i ≠ some k) ∧ B = fun _ => false)) ∧
      ∀ s, s < sites → c1[s]? = some ((Nat.max (cntS (whoF es) A s i) (cntS (whoF es) B s i) : Nat) : Int) := by
    rcases h with ⟨o, ho, hs, rfl⟩ | ⟨hs, rfl⟩
    · refine ⟨Hg (depF es) o, .inl ⟨o, ho, hs, rfl⟩, fun s h => ?_⟩
      rw [hr, ← cntRow_whole (es := es) (sites := sites) (show o + 1 ≤ i by omega), maxL_get (cntRow_get h) (cntRow_get h)]
      congr 1
      have e1 : Nat.max (cntS (whoF es) A s i) (cntS (whoF es) (Hg (depF es) o) s i) = max (cntS (whoF es) A s i) (cntS (whoF es) (Hg (depF es) o) s i) := rfl
      rw [e1]
      split <;> omega
    · refine ⟨fun _ => false, .inr ⟨fun k _ hk => (by rw [hs] at hk; cases hk), rfl⟩, fun s h => ?_⟩
      rw [hr, cntRow_get h, cntS_false]
      have e1 : Nat.max (cntS (whoF es) A s i) 0 = cntS (whoF es) A s i := Nat.max_eq_left (Nat.zero_le _)
      rw [e1]
  have hA' : (∃ l, l < i ∧ whoF es l = whoF es i ∧ (∀ k, l < k → k < i → whoF es k ≠ whoF es i) ∧ A = Hg (depF es) l) ∨ ((∀ k, k < i → whoF es k ≠ whoF es i) ∧ A = fun _ => false) := by
    rw [hw]; exact hA
  have hcount := (hangsF es (i + 1)).count (i := i) (by omega) A B hA' hB
  have hlen : c1.length = sites := by
    rcases h with ⟨o, _, _, rfl⟩ | ⟨_, rfl⟩
    · exact maxL_len (nowF_len _ _ _ _) (clkRow_len _ _ _)
    · exact nowF_len _ _ _ _
  refine ⟨_, hc p hp, by omega, ?_, ?_, hlen⟩
  · have h1 := cntS_le (whoF es) A p i
    have h2 := cntS_le (whoF es) B p i
    have := Nat.max_le.2 ⟨h1, h2⟩
    have e1 : Nat.max (cntS (whoF es) A p i) (cntS (whoF es) B p i) = max (cntS (whoF es) A p i) (cntS (whoF es) B p i) := rfl
    rw [e1]
    omega
  · apply List.ext_getElem?
    intro s
    rcases Nat.lt_or_ge s sites with hs | hs
    · unfold clkRow
      rw [cntRow_get hs, hcount s, List.getElem?_set, hw]
      by_cases e : p = s
      · subst e
        rw [if_pos rfl, if_pos (by omega), if_pos rfl]
        rfl
      · rw [if_neg e, if_neg (by omega), Nat.add_zero]
        exact hc s hs
    · rw [List.getElem?_eq_none (by rw [List.length_set, hlen]; exact hs), List.getElem?_eq_none (by rw [clkRow_len]; exact hs)]

/-- what is refused of event i -/
def okE (sites : Int) (es : List Ev) (i : Nat) : Int := oddP sites (es.take i) (es.getD i default)
def firstBad (sites : Int) (es : List Ev) : List Nat → Int
  | [] => 0
  | i :: l => if okE sites es i ≠ 0 then okE sites es i else firstBad sites es l
theorem firstBad_app {sites : Int} {es : List Ev} : ∀ {l l' : List Nat}, (∀ i ∈ l, okE sites es i = 0) → firstBad sites es (l ++ l') = firstBad sites es l'
  | [], _, _ => rfl
  | i :: l, l', h => by
    rw [List.cons_append, firstBad, if_neg (by rw [h i (by simp)]; simp)]
    exact firstBad_app fun j hj => h j (by simp [hj])
def playR (sites : Int) (es : List Ev) : List (List Int) × Int :=
  if sites < 1 ∨ 8 < sites then ([], 2) else if 200 < es.length then ([], 1)
  else if firstBad sites es (List.range es.length) = 0 then ((List.range es.length).map (clkRow es sites.toNat), 0) else ([], firstBad sites es (List.range es.length))
theorem play_range {sites : Int} {es : List Ev} (h : sites < 1 ∨ 8 < sites) : playR sites es = ([], 2) := by unfold playR; rw [if_pos h]
theorem play_long {sites : Int} {es : List Ev} (h : 1 ≤ sites) (h8 : sites ≤ 8) (hl : 200 < es.length) : playR sites es = ([], 1) := by unfold playR; rw [if_neg (by omega), if_pos hl]
theorem play_bad {sites : Int} {es : List Ev} (h : 1 ≤ sites) (h8 : sites ≤ 8) (hl : es.length ≤ 200) {k : Nat} (hk : k < es.length) (hg : ∀ j, j < k → okE sites es j = 0) {r : Int} (hr : okE sites es k = r) (hb : r ≠ 0) : playR sites es = ([], r) := by
  subst hr
  have e : List.range es.length = List.range k ++ (k :: (List.range es.length).drop (k + 1)) := by
    have h1 : k < (List.range es.length).length := by simpa using hk
    have h2 := List.take_append_drop k (List.range es.length)
    rw [List.take_range, Nat.min_eq_left (by omega), List.drop_eq_getElem_cons h1] at h2
    simpa using h2.symm
  have e2 : firstBad sites es (List.range es.length) = okE sites es k := by
    rw [e, firstBad_app (fun i hi => hg i (List.mem_range.1 hi)), firstBad, if_pos hb]
  unfold playR
  rw [if_neg (by omega), if_neg (by omega), e2, if_neg hb]
theorem play_good {sites : Nat} {es : List Ev} (h : 1 ≤ sites) (h8 : sites ≤ 8) (hl : es.length ≤ 200) (hg : ∀ j, j < es.length → okE sites es j = 0) : playR sites es = ((List.range es.length).map (clkRow es sites), 0) := by
  have e2 : firstBad sites es (List.range es.length) = 0 := by
    have := firstBad_app (l' := []) (fun i hi => hg i (List.mem_range.1 hi)) (l := List.range es.length)
    rwa [List.append_nil] at this
  unfold playR
  rw [if_neg (by omega), if_neg (by omega), if_pos e2]
  rfl
theorem oddP_zero {sites : Int} {es : List Ev} {x : Ev} (h : oddP sites es x = 0) : 1 ≤ x.k ∧ x.k ≤ 3 ∧ 0 ≤ x.w ∧ x.w < sites ∧ (x.k = 3 → 0 ≤ x.o ∧ x.o < es.length ∧ (es.getD x.o.toNat default).k = 2) := by
  unfold oddP at h
  split at h
  · omega
  · split at h
    · omega
    · split at h
      · exact ⟨by omega, by omega, by omega, by omega, fun e => by contradiction⟩
      · split at h
        · omega
        · split at h
          · omega
          · exact ⟨by omega, by omega, by omega, by omega, fun _ => ⟨by omega, by omega, by omega⟩⟩
end Go.Proofs.Ytickpflebmecpaa
