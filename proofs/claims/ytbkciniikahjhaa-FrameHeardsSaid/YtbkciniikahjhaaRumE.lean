/- Slots of a row, one by one. Conditions: none beyond what each theorem states. -/
import Derived.Test.YtbkciniikahjhaaRumD
namespace Go.Proofs.Ytbkciniikahjhaa
open Go.RowKit
set_option linter.unusedVariables false

theorem may_srt : ∀ (l : List Ent) (p : Option Int), entsGo l p = true → (∀ x ∈ l, oneP x = true) ∧ (∀ q, p = some q → ∀ x ∈ l, q < x.key) ∧ l.Pairwise fun x y => x.key < y.key
  | [], p, _ => ⟨by simp, by simp, List.Pairwise.nil⟩
  | e :: l, p, h => by
    unfold entsGo at h
    simp only [Bool.and_eq_true] at h
    obtain ⟨h1, h2, h3⟩ := may_srt l (some e.key) h.2
    refine ⟨fun x hx => ?_, fun q hq x hx => ?_, List.pairwise_cons.2 ⟨fun x hx => h2 _ rfl x hx, h3⟩⟩
    · rcases List.mem_cons.1 hx with rfl | hx
      · exact h.1.1
      · exact h1 x hx
    · subst hq
      have h4 := h.1.2
      simp [above] at h4
      rcases List.mem_cons.1 hx with rfl | hx
      · exact h4
      · have := h2 _ rfl x hx; omega
theorem may_row {l : List Ent} (h : mayP l = true) : (l.Pairwise fun x y => x.key < y.key) ∧ l.length ≤ 8 ∧ ∀ x ∈ l, (0 ≤ x.key ∧ x.key ≤ 1048576) ∧ (0 ≤ x.value ∧ x.value ≤ 1048576) ∧ (0 ≤ x.time ∧ x.time ≤ 1048576) ∧ (0 ≤ x.who ∧ x.who ≤ 7) := by
  unfold mayP at h
  simp only [Bool.and_eq_true, decide_eq_true_eq] at h
  obtain ⟨h1, _, h3⟩ := may_srt l none h.1
  refine ⟨h3, h.2, fun x hx => ?_⟩
  have := h1 x hx
  unfold oneP inP at this
  simp at this
  omega
theorem badRow_no {l : List Ent} (hm : mayP l = true) (hb : badRow l = false) : ∀ e ∈ l, SlotOk e ∧ e.key ≤ 7 := fun e he => by
  have h1 := (may_row hm).2.2 e he
  have h2 := List.any_eq_false.1 hb e he
  simp only [Bool.or_eq_true, decide_eq_true_eq] at h2
  exact ⟨⟨by omega, h1.2.2.1, h1.2.2.2⟩, by omega⟩
theorem keyE_snoc (l : List Ent) (e : Ent) (x : Int) (h : ∀ y ∈ l, y.key < e.key) : keyE (l ++ [e]) x = if x = e.key then some e else keyE l x := by
  unfold keyE
  rw [List.find?_append]
  by_cases hx : x = e.key
  · rw [if_pos hx]
    have : l.find? (fun y => decide (y.key = x)) = none := by
      rw [List.find?_eq_none]
      intro y hy
      have := h y hy
      simp
      omega
    rw [this]
    simp [hx]
  · rw [if_neg hx]
    have : [e].find? (fun y => decide (y.key = x)) = none := by
      simp
      omega
    rw [this]
    simp
def arrK (l : List Ent) : List Int := (List.range 8).map fun k : Nat => ((slotV l k : Nat) : Int)
theorem arrK_len (l : List Ent) : (arrK l).length = 8 := by simp [arrK]
theorem arrK_get (l : List Ent) (k : Nat) (hk : k < 8) : (arrK l)[k]? = some ((slotV l k : Nat) : Int) := by simp [arrK, hk]
theorem arrK_snoc (l : List Ent) (e : Ent) (k : Nat) (h : ∀ y ∈ l, y.key < e.key) (he : e.key = k) (hk : k < 8) : arrK (l ++ [e]) = (arrK l).set k ((slotN e : Nat) : Int) := by
  apply List.ext_getElem?
  intro i
  rw [List.getElem?_set, arrK_len]
  by_cases hi : i < 8
  · rw [arrK_get _ i hi]
    split
    · rename_i h1
      subst h1
      try rw [if_pos hk]
      unfold slotV
      rw [keyE_snoc l e _ h, if_pos he.symm]
    · rename_i h1
      rw [arrK_get l i hi]
      unfold slotV
      rw [keyE_snoc l e _ h, if_neg (by omega)]
  · rw [List.getElem?_eq_none (by rw [arrK_len]; omega)]
    split
    · omega
    · rw [List.getElem?_eq_none (by rw [arrK_len]; omega)]
theorem slotsOf_len (l : List Ent) : (slotsOf l).length = 8 := by simp [slotsOf]
theorem slotsOf_get (l : List Ent) (k : Nat) (hk : k < 8) : (slotsOf l)[k]? = some (34, ((slotV l k : Nat) : Int)) := by simp [slotsOf, hk]
theorem sorted_take {l : List Ent} (h : l.Pairwise fun x y => x.key < y.key) (k : Nat) (e : Ent) (he : l[k]? = some e) : ∀ y ∈ l.take k, y.key < e.key := fun y hy => by
  obtain ⟨hk, rfl⟩ := List.getElem?_eq_some_iff.1 he
  obtain ⟨i, hi, rfl⟩ := List.mem_iff_getElem.1 hy
  have hik : i < k := by rw [List.length_take] at hi; omega
  rw [List.getElem_take]
  exact List.pairwise_iff_getElem.1 h i k (by omega) hk hik
theorem rumFs_snoc (rows : List (List Ent)) (is : List Nat) (i : Nat) : rumFs rows (is ++ [i]) = rumFs rows is ++ slotsOf (rows.getD i []) := by
  unfold rumFs
  rw [List.flatMap_append]
  simp
theorem rumFs_len (rows : List (List Ent)) (is : List Nat) : (rumFs rows is).length = 8 * is.length := by
  have := congrArg List.length (rumFs_widths rows is)
  simpa using this
end Go.Proofs.Ytbkciniikahjhaa
