/- The plain law of reg.Merge: one by one is key by key. Conditions: none beyond what each theorem states. -/
import Derived.Test.YthmnfbnaeggknaaRegJ
import Derived.Test.YthmnfbnaeggknaaRegB
namespace Go.Proofs.Ythmnfbnaeggknaa
open Go.RowKit
set_option linter.unusedVariables false

def insE : List Ent → Ent → List Ent
  | [], e => [e]
  | x :: L, e => if x.key < e.key then x :: insE L e else if e.key < x.key then e :: x :: L else (if newerP e x then e else x) :: L
def merge2 : List Ent → List Ent → List Ent
  | [], b => b
  | x :: a, [] => x :: a
  | x :: a, y :: b => if x.key < y.key then x :: merge2 a (y :: b) else if y.key < x.key then y :: merge2 (x :: a) b else (if newerP y x then y else x) :: merge2 a b
termination_by a b => a.length + b.length
theorem merge2_nil (a : List Ent) : merge2 a [] = a := by cases a <;> simp [merge2]
theorem merge2_cons (x : Ent) (a b : List Ent) (h : ∀ y ∈ b, x.key < y.key) : merge2 (x :: a) b = x :: merge2 a b := by
  cases b with
  | nil => rw [merge2_nil, merge2_nil]
  | cons y b => rw [merge2, if_pos (h y (by simp))]
theorem merge2_ins (y : Ent) (b : List Ent) (h : ∀ z ∈ b, y.key < z.key) : ∀ a, merge2 a (y :: b) = merge2 (insE a y) b
  | [] => by rw [merge2, insE, merge2_cons y [] b h]; simp [merge2]
  | x :: a => by
    rw [merge2, insE]
    split
    · rw [merge2_ins y b h a, merge2_cons x _ b (fun z hz => by have := h z hz; omega)]
    · split
      · rw [merge2_cons y _ b h]
      · rw [merge2_cons _ _ b (fun z hz => by have := h z hz; split <;> omega)]
theorem merge2_fold : ∀ (b a : List Ent), SortedE b → merge2 a b = b.foldl insE a
  | [], a, _ => by rw [merge2_nil]; rfl
  | y :: b, a, h => by
    have hs := List.pairwise_cons.1 h
    rw [merge2_ins y b hs.1, merge2_fold b _ hs.2]
    rfl
theorem insE_len (L : List Ent) (e : Ent) : (insE L e).length ≤ L.length + 1 := by
  induction L with
  | nil => simp [insE]
  | cons x L ih => unfold insE; split; · simp; omega
                   split <;> simp
theorem insE_mem (L : List Ent) (e : Ent) : ∀ z ∈ insE L e, z ∈ L ∨ z = e := by
  induction L with
  | nil => intro z hz; simp [insE] at hz; exact .inr hz
  | cons x L ih =>
    intro z hz
    unfold insE at hz
    split at hz
    · rcases List.mem_cons.1 hz with rfl | hz
      · exact .inl (by simp)
      · rcases ih z hz with h | h
        · exact .inl (by simp [h])
        · exact .inr h
    · split at hz
      · rcases List.mem_cons.1 hz with rfl | hz
        · exact .inr rfl
        · exact .inl hz
      · rcases List.mem_cons.1 hz with h | hz
        · split at h
          · exact .inr h
          · exact .inl (by simp [h])
        · exact .inl (by simp [hz])
theorem insE_sorted (L : List Ent) (e : Ent) (h : SortedE L) : SortedE (insE L e) := by
  induction L with
  | nil => exact List.pairwise_singleton _ _
  | cons x L ih =>
    have hs := List.pairwise_cons.1 h
    unfold insE
    split
    · rename_i hlt
      refine List.pairwise_cons.2 ⟨fun z hz => ?_, ih hs.2⟩
      rcases insE_mem L e z hz with h1 | h1
      · exact hs.1 z h1
      · rw [h1]; exact hlt
    · split
      · rename_i h1 h2
        refine List.pairwise_cons.2 ⟨fun z hz => ?_, h⟩
        rcases List.mem_cons.1 hz with rfl | hz
        · exact h2
        · have := hs.1 z hz; omega
      · rename_i h1 h2
        refine List.pairwise_cons.2 ⟨fun z hz => ?_, hs.2⟩
        have := hs.1 z hz
        split <;> omega
theorem insE_keys (L : List Ent) (e : Ent) (h : KeysOk L) (he : 0 ≤ e.key ∧ e.key ≤ 1048576) : KeysOk (insE L e) := fun z hz => by
  rcases insE_mem L e z hz with h1 | h1
  · exact h z h1
  · rw [h1]; exact he
theorem insE_had (L : List Ent) (e : Ent) (h : SortedE L) : hadE L e.key = true → ∃ x, L[posE L e.key]? = some x ∧ x.key = e.key ∧ insE L e = if newerP e x then L.set (posE L e.key) e else L := by
  induction L with
  | nil => intro h; simp [hadE, posE] at h
  | cons x L ih =>
    have hs := List.pairwise_cons.1 h
    intro hh
    unfold hadE posE at hh
    unfold posE insE
    by_cases h1 : x.key < e.key
    · rw [if_pos h1] at hh ⊢
      rw [if_pos h1]
      rw [List.getElem?_cons_succ] at hh
      obtain ⟨y, hy, hk, he⟩ := ih hs.2 hh
      refine ⟨y, by rw [List.getElem?_cons_succ]; exact hy, hk, ?_⟩
      rw [he]
      split <;> simp
    · rw [if_neg h1] at hh ⊢
      rw [if_neg h1]
      simp at hh
      rw [if_neg (by omega)]
      refine ⟨x, by simp, hh, ?_⟩
      split <;> simp
theorem insE_new (L : List Ent) (e : Ent) (h : SortedE L) : hadE L e.key = false → insE L e = L.take (posE L e.key) ++ e :: L.drop (posE L e.key) := by
  induction L with
  | nil => intro _; simp [insE]
  | cons x L ih =>
    have hs := List.pairwise_cons.1 h
    intro hh
    unfold hadE posE at hh
    unfold posE insE
    by_cases h1 : x.key < e.key
    · rw [if_pos h1] at hh ⊢
      rw [if_pos h1]
      rw [List.getElem?_cons_succ] at hh
      rw [ih hs.2 hh]
      simp
    · rw [if_neg h1] at hh ⊢
      rw [if_neg h1]
      simp at hh
      rw [if_pos (by omega)]
      simp
theorem oneP_facts {e : Ent} (h : oneP e = true) : (0 ≤ e.key ∧ e.key ≤ 1048576) ∧ (0 ≤ e.value ∧ e.value ≤ 1048576) ∧ (0 ≤ e.time ∧ e.time ≤ 1048576) ∧ (0 ≤ e.who ∧ e.who ≤ 7) := by
  unfold oneP inP at h
  simp at h
  omega
theorem entsGo_facts : ∀ (l : List Ent) (p : Option Int), entsGo l p = true → (∀ x ∈ l, oneP x = true) ∧ (∀ q, p = some q → ∀ x ∈ l, q < x.key) ∧ SortedE l
  | [], p, _ => ⟨by simp, by simp, List.Pairwise.nil⟩
  | e :: l, p, h => by
    unfold entsGo at h
    simp only [Bool.and_eq_true] at h
    obtain ⟨h1, h2, h3⟩ := entsGo_facts l (some e.key) h.2
    refine ⟨fun x hx => ?_, fun q hq x hx => ?_, List.pairwise_cons.2 ⟨fun x hx => h2 _ rfl x hx, h3⟩⟩
    · rcases List.mem_cons.1 hx with rfl | hx
      · exact h.1.1
      · exact h1 x hx
    · subst hq
      have h4 := h.1.2
      simp [above] at h4
      rcases List.mem_cons.1 hx with rfl | hx
      · exact h4
      · have := h2 _ rfl x hx; omega
theorem mayP_facts {l : List Ent} (h : mayP l = true) : SortedE l ∧ KeysOk l ∧ l.length ≤ 8 ∧ ∀ x ∈ l, oneP x = true := by
  unfold mayP at h
  simp only [Bool.and_eq_true, decide_eq_true_eq] at h
  obtain ⟨h1, _, h3⟩ := entsGo_facts l none h.1
  exact ⟨h3, fun x hx => (oneP_facts (h1 x hx)).1, h.2, h1⟩
def mergeP (a b : List Ent) : List Ent × Int := if mayP a && mayP b then (if 8 < (b.foldl insE a).length then ([], 8) else (b.foldl insE a, 0)) else ([], 4)
theorem fold_facts (b : List Ent) (hb : KeysOk b) : ∀ a, SortedE a → KeysOk a → SortedE (b.foldl insE a) ∧ KeysOk (b.foldl insE a) ∧ (b.foldl insE a).length ≤ a.length + b.length := by
  induction b with
  | nil => intro a h1 h2; exact ⟨h1, h2, by simp⟩
  | cons y b ih =>
    intro a h1 h2
    obtain ⟨h3, h4, h5⟩ := ih (fun x hx => hb x (by simp [hx])) (insE a y) (insE_sorted a y h1) (insE_keys a y h2 (hb y (by simp)))
    have := insE_len a y
    exact ⟨h3, h4, by rw [List.foldl_cons]; simp; omega⟩
end Go.Proofs.Ythmnfbnaeggknaa
