/- What the clocks of events count, plainly: events hang on events, a clock counts each site's. Conditions: none beyond what each theorem states. -/
import Derived.Test.YtickpflebmecpaaMem
namespace Go.Proofs.Ytickpflebmecpaa
open Go.RowKit
set_option linter.unusedVariables false

/-- how many of the first n places of site s lie in P -/
def cntS (who : Nat → Int) (P : Nat → Bool) (s : Int) : Nat → Nat
  | 0 => 0
  | n + 1 => cntS who P s n + (if P n = true ∧ who n = s then 1 else 0)
theorem cntS_mono {who : Nat → Int} {P Q : Nat → Bool} {s : Int} {n : Nat} (h : ∀ j, j < n → who j = s → P j = true → Q j = true) : cntS who P s n ≤ cntS who Q s n := by
  induction n with
  | zero => exact Nat.le_refl _
  | succ n ih =>
    have h1 := ih fun j hj => h j (by omega)
    have h2 := h n (by omega)
    unfold cntS
    by_cases ha : P n = true ∧ who n = s
    · rw [if_pos ha, if_pos ⟨h2 ha.2 ha.1, ha.2⟩]; omega
    · rw [if_neg ha]; omega
theorem cntS_congr {who : Nat → Int} {P Q : Nat → Bool} {s : Int} {n : Nat} (h : ∀ j, j < n → who j = s → P j = Q j) : cntS who P s n = cntS who Q s n :=
  Nat.le_antisymm (cntS_mono fun j hj hw hp => by rw [← h j hj hw]; exact hp) (cntS_mono fun j hj hw hp => by rw [h j hj hw]; exact hp)
/-- with a place, all earlier places of its site -/
def Closed (who : Nat → Int) (P : Nat → Bool) : Prop := ∀ j k, P j = true → k < j → who k = who j → P k = true
theorem cntS_or {who : Nat → Int} {P Q : Nat → Bool} (hP : Closed who P) (hQ : Closed who Q) (s : Int) (n : Nat) : cntS who (fun j => P j || Q j) s n = Nat.max (cntS who P s n) (cntS who Q s n) := by
  by_cases h : ∀ j, j < n → who j = s → P j = true → Q j = true
  · have h1 := cntS_mono h
    have h2 : cntS who (fun j => P j || Q j) s n = cntS who Q s n := cntS_congr fun j hj hw => by
      cases hp : P j
      · rfl
      · rw [h j hj hw hp]; rfl
    rw [h2]; exact (Nat.max_eq_right h1).symm
  · have hx : ∃ j, j < n ∧ who j = s ∧ P j = true ∧ Q j = false := by
      apply Classical.byContradiction
      intro hc
      apply h
      intro j hj hw hp
      cases hq : Q j
      · exact absurd ⟨j, hj, hw, hp, hq⟩ hc
      · rfl
    obtain ⟨j0, hj0, hw0, hp0, hq0⟩ := hx
    have h3 : ∀ j, j < n → who j = s → Q j = true → P j = true := by
      intro j hj hw hq
      rcases Nat.lt_trichotomy j j0 with hlt | he | hgt
      · exact hP j0 j hp0 hlt (by rw [hw, hw0])
      · rw [he]; exact hp0
      · have := hQ j j0 hq hgt (by rw [hw, hw0]); rw [this] at hq0; cases hq0
    have h1 := cntS_mono h3
    have h2 : cntS who (fun j => P j || Q j) s n = cntS who P s n := cntS_congr fun j hj hw => by
      cases hq : Q j
      · simp
      · rw [h3 j hj hw hq]; rfl
    rw [h2]; exact (Nat.max_eq_left h1).symm

theorem cntS_beyond {who : Nat → Int} {P : Nat → Bool} {s : Int} {m : Nat} (n : Nat) (hn : m ≤ n) (h : ∀ j, m ≤ j → P j = false) : cntS who P s n = cntS who P s m := by
  induction n with
  | zero => rw [Nat.le_zero.1 hn]
  | succ n ih =>
    rcases Nat.lt_or_ge m (n + 1) with hlt | hge
    · have e : cntS who P s (n + 1) = cntS who P s n + (if P n = true ∧ who n = s then 1 else 0) := rfl
      rw [e, ih (by omega), if_neg (by rw [h n (by omega)]; simp), Nat.add_zero]
    · rw [Nat.le_antisymm hn hge]

/-- H i: the events that event i hangs on, itself among them -/
def Hangs (who : Nat → Int) (src : Nat → Option Nat) (H : Nat → Nat → Bool) (n : Nat) : Prop :=
  ∀ i, i < n → ∀ j, H i j = true ↔ j = i ∨ ∃ k, k < i ∧ (who k = who i ∨ src i = some k) ∧ H k j = true
section
variable {who : Nat → Int} {src : Nat → Option Nat} {H : Nat → Nat → Bool} {n : Nat} (h : Hangs who src H n)
include h
theorem Hangs.self {i : Nat} (hi : i < n) : H i i = true := (h i hi i).2 (.inl rfl)
theorem Hangs.le : ∀ i, i < n → ∀ j, H i j = true → j ≤ i := by
  intro i
  induction i using Nat.strongRecOn with
  | _ i ih =>
    intro hi j hj
    rcases (h i hi j).1 hj with he | ⟨k, hk, _, hkj⟩
    · omega
    · have := ih k hk (by omega) j hkj; omega
theorem Hangs.trans : ∀ i, i < n → ∀ j k, H i j = true → H j k = true → H i k = true := by
  intro i
  induction i using Nat.strongRecOn with
  | _ i ih =>
    intro hi j k hj hk
    rcases (h i hi j).1 hj with he | ⟨l, hl, hc, hlj⟩
    · rw [← he]; exact hk
    · exact (h i hi k).2 (.inr ⟨l, hl, hc, ih l hl (by omega) j k hlj hk⟩)
theorem Hangs.closed {i : Nat} (hi : i < n) : Closed who (H i) := by
  intro j k hj hkj hw
  have hjn : j < n := by have := h.le i hi j hj; omega
  exact h.trans i hi j k hj ((h j hjn k).2 (.inr ⟨k, hkj, .inl hw, h.self (by omega)⟩))
/-- what event i hangs on is what the last event of its site hangs on, what the heard one hangs on, and itself -/
theorem Hangs.count {i : Nat} (hi : i < n) (A B : Nat → Bool)
    (hA : (∃ l, l < i ∧ who l = who i ∧ (∀ k, l < k → k < i → who k ≠ who i) ∧ A = H l) ∨ ((∀ k, k < i → who k ≠ who i) ∧ A = fun _ => false))
    (hB : (∃ k, k < i ∧ src i = some k ∧ B = H k) ∨ ((∀ k, k < i → src i ≠ some k) ∧ B = fun _ => false)) (s : Int) :
    cntS who (H i) s (i + 1) = Nat.max (cntS who A s i) (cntS who B s i) + (if who i = s then 1 else 0) := by
  have cA : Closed who A := by
    rcases hA with ⟨l, hl, _, _, rfl⟩ | ⟨_, rfl⟩
    · exact h.closed (by omega)
    · intro j k hj; cases hj
  have cB : Closed who B := by
    rcases hB with ⟨l, hl, _, rfl⟩ | ⟨_, rfl⟩
    · exact h.closed (by omega)
    · intro j k hj; cases hj
  rw [← cntS_or cA cB]
  have e : cntS who (H i) s (i + 1) = cntS who (H i) s i + (if H i i = true ∧ who i = s then 1 else 0) := rfl
  rw [e, h.self hi]
  have e2 : (if true = true ∧ who i = s then 1 else 0) = (if who i = s then 1 else 0) := by simp
  rw [e2]
  congr 1
  refine cntS_congr fun j hj _ => ?_
  rw [Bool.eq_iff_iff]
  constructor
  · intro hx
    rcases (h i hi j).1 hx with he | ⟨k, hk, hc, hkj⟩
    · omega
    · rw [Bool.or_eq_true]
      rcases hc with hc | hc
      · left
        rcases hA with ⟨l, hl, hwl, hmax, rfl⟩ | ⟨hno, rfl⟩
        · rcases Nat.lt_trichotomy k l with hlt | he | hgt
          · exact (h l (by omega) j).2 (.inr ⟨k, hlt, .inl (by rw [hc, hwl]), hkj⟩)
          · rw [← he]; exact hkj
          · exact absurd hc (hmax k hgt hk)
        · exact absurd hc (hno k hk)
      · right
        rcases hB with ⟨l, hl, hs, rfl⟩ | ⟨hno, rfl⟩
        · rw [hs] at hc; injection hc with hc; rw [hc]; exact hkj
        · exact absurd hc (hno k hk)
  · intro hx
    rw [Bool.or_eq_true] at hx
    rcases hx with hx | hx
    · rcases hA with ⟨l, hl, hwl, hmax, rfl⟩ | ⟨hno, rfl⟩
      · exact (h i hi j).2 (.inr ⟨l, hl, .inl hwl, hx⟩)
      · cases hx
    · rcases hB with ⟨l, hl, hs, rfl⟩ | ⟨hno, rfl⟩
      · exact (h i hi j).2 (.inr ⟨l, hl, .inr hs, hx⟩)
      · cases hx
/-- the count over all places, for an event ahead -/
theorem Hangs.whole {i m : Nat} (hi : i < n) (hm : i + 1 ≤ m) (s : Int) : cntS who (H i) s m = cntS who (H i) s (i + 1) :=
  cntS_beyond m hm fun j hj => by
    cases hx : H i j
    · rfl
    · have := h.le i hi j hx; omega
end
end Go.Proofs.Ytickpflebmecpaa
