/- The plain law of gossip: rows of entries in order against places by their key. Conditions: none beyond what each theorem states. -/
import Derived.Test.YthmnfbnaeggknaaShvB
import Derived.Test.YthmnfbnaeggknaaGosE
namespace Go.Proofs.Ythmnfbnaeggknaa
open Go.RowKit
set_option linter.unusedVariables false

structure EntOk (T : Int) (e : Ent) : Prop where
  value : 0 ≤ e.value ∧ e.value ≤ 255
  time : 0 ≤ e.time ∧ e.time ≤ T
  who : 0 ≤ e.who ∧ e.who ≤ 7
  gone : e.gone = true → e.value = 0
theorem EntOk.mono {T T' : Int} {e : Ent} (h : EntOk T e) (hT : T ≤ T') : EntOk T' e := ⟨h.value, ⟨h.time.1, by have := h.time.2; omega⟩, h.who, h.gone⟩
/-- the places of a row hold the entries of their keys, from k0 on -/
def Keyed (T : Int) (k0 : Nat) (r : List Slot) : Prop := ∀ (i : Nat) (s : Slot), r[i]? = some s → s.2 = true → s.1.key = ((k0 + i : Nat) : Int) ∧ EntOk T s.1
theorem Keyed.tail {T : Int} {k0 : Nat} {s : Slot} {r : List Slot} (h : Keyed T k0 (s :: r)) : Keyed T (k0 + 1) r := fun i s' hs h2 => by
  have := h (i + 1) s' (by simpa using hs) h2
  rw [show k0 + (i + 1) = k0 + 1 + i by omega] at this
  exact this
theorem Keyed.mono {T T' : Int} {k0 : Nat} {r : List Slot} (h : Keyed T k0 r) (hT : T ≤ T') : Keyed T' k0 r := fun i s hs h2 => ⟨(h i s hs h2).1, (h i s hs h2).2.mono hT⟩
theorem lsS_cons (s : Slot) (r : List Slot) : lsS (s :: r) = if s.2 then s.1 :: lsS r else lsS r := by
  unfold lsS
  rw [List.filterMap_cons]
  cases s.2 <;> simp
theorem lsS_mem {T : Int} {r : List Slot} {k0 : Nat} (h : Keyed T k0 r) {e : Ent} (he : e ∈ lsS r) : ((k0 : Int) ≤ e.key ∧ e.key < ((k0 + r.length : Nat) : Int)) ∧ EntOk T e := by
  unfold lsS at he
  obtain ⟨s, hs, h2⟩ := List.mem_filterMap.1 he
  obtain ⟨i, hi⟩ := List.mem_iff_getElem?.1 hs
  have hil := (List.getElem?_eq_some_iff.1 hi).1
  cases hb : s.2 with
  | false => simp [hb] at h2
  | true =>
    simp [hb] at h2
    subst h2
    obtain ⟨h1, h3⟩ := h i s hi hb
    exact ⟨by omega, h3⟩
theorem sorted_ls {T : Int} : ∀ (r : List Slot) (k0 : Nat), Keyed T k0 r → SortedE (lsS r)
  | [], _, _ => List.Pairwise.nil
  | s :: r, k0, h => by
    rw [lsS_cons]
    have ih := sorted_ls r (k0 + 1) h.tail
    split
    · rename_i h2
      refine List.pairwise_cons.2 ⟨fun z hz => ?_, ih⟩
      have h1 := (h 0 s rfl h2).1
      have h3 := (lsS_mem h.tail hz).1
      omega
    · exact ih
theorem ins_front (L : List Ent) (e : Ent) (h : ∀ z ∈ L, e.key < z.key) : insE L e = e :: L := by
  cases L with
  | nil => rfl
  | cons x L =>
    have := h x (by simp)
    unfold insE
    rw [if_neg (by omega), if_pos this]
/-- an entry is learnt at its place -/
def upd (r : List Slot) (i : Nat) (e : Ent) : List Slot :=
  match r[i]? with
  | some (x, b) => if !b || newerP e x then r.set i (e, true) else r
  | none => r
theorem upd_len (r : List Slot) (i : Nat) (e : Ent) : (upd r i e).length = r.length := by
  unfold upd
  split
  · split
    · simp
    · rfl
  · rfl
theorem upd_get (r : List Slot) (i : Nat) (e : Ent) (j : Nat) (s : Slot) (h : (upd r i e)[j]? = some s) : r[j]? = some s ∨ (j = i ∧ s = (e, true)) := by
  unfold upd at h
  split at h
  · split at h
    · rw [List.getElem?_set] at h
      split at h
      · rename_i h1
        split at h
        · right; cases h; exact ⟨h1.symm, rfl⟩
        · cases h
      · exact .inl h
    · exact .inl h
  · exact .inl h
theorem Keyed.upd {T : Int} {k0 : Nat} {r : List Slot} (h : Keyed T k0 r) {i : Nat} {e : Ent} (hk : e.key = ((k0 + i : Nat) : Int)) (he : EntOk T e) : Keyed T k0 (upd r i e) := fun j s hs h2 => by
  rcases upd_get r i e j s hs with h1 | ⟨h1, h3⟩
  · exact h j s h1 h2
  · subst h1 h3
    exact ⟨hk, he⟩
theorem ins_ls {T : Int} : ∀ (r : List Slot) (k0 i : Nat) (e : Ent), Keyed T k0 r → e.key = ((k0 + i : Nat) : Int) → i < r.length → insE (lsS r) e = lsS (upd r i e)
  | [], k0, i, e, _, _, h => by simp at h
  | s :: r, k0, 0, e, hk, he, _ => by
    obtain ⟨x, b⟩ := s
    have hfr : ∀ z ∈ lsS r, e.key < z.key := fun z hz => by have := (lsS_mem hk.tail hz).1; omega
    unfold upd
    simp only [List.getElem?_cons_zero]
    cases b with
    | false =>
      simp only [Bool.not_false, Bool.true_or, if_true, List.set_cons_zero]
      rw [lsS_cons, lsS_cons]
      simp only [Bool.false_eq_true, if_false, if_true]
      exact ins_front _ _ hfr
    | true =>
      have hx := (hk 0 (x, true) rfl rfl).1
      dsimp only at hx
      rw [lsS_cons]
      simp only [if_true, Bool.not_true, Bool.false_or, List.set_cons_zero]
      unfold insE
      rw [if_neg (by omega), if_neg (by omega)]
      split
      · rw [lsS_cons]; simp
      · rw [lsS_cons]; simp
  | s :: r, k0, i + 1, e, hk, he, hl => by
    have ih := ins_ls r (k0 + 1) i e hk.tail (by rw [he]; congr 1; omega) (by simpa using hl)
    have hu : upd (s :: r) (i + 1) e = s :: upd r i e := by
      unfold upd
      rw [List.getElem?_cons_succ]
      cases r[i]? with
      | none => rfl
      | some p =>
        obtain ⟨x, b⟩ := p
        simp only [List.set_cons_succ]
        split <;> rfl
    rw [hu, lsS_cons, lsS_cons]
    split
    · rename_i h2
      have hx := (hk 0 s rfl h2).1
      rw [← ih]
      conv => lhs; unfold insE
      rw [if_pos (by omega)]
    · exact ih
theorem fold_ls {T : Int} : ∀ (es : List Ent) (r : List Slot), Keyed T 0 r → (∀ e ∈ es, (0 ≤ e.key ∧ e.key < r.length) ∧ EntOk T e) →
    es.foldl insE (lsS r) = lsS (es.foldl (fun r e => upd r e.key.toNat e) r) ∧ Keyed T 0 (es.foldl (fun r e => upd r e.key.toNat e) r) ∧ (es.foldl (fun r e => upd r e.key.toNat e) r).length = r.length
  | [], r, h, _ => ⟨rfl, h, rfl⟩
  | e :: es, r, h, he => by
    obtain ⟨h1, h2⟩ := he e (by simp)
    have hk : e.key = ((0 + e.key.toNat : Nat) : Int) := by omega
    have hi := ins_ls r 0 e.key.toNat e h hk (by omega)
    have hl := upd_len r e.key.toNat e
    have hK := h.upd hk h2
    have ih := fold_ls es (upd r e.key.toNat e) hK (fun x hx => by rw [hl]; exact he x (by simp [hx]))
    simp only [List.foldl_cons]
    rw [hi]
    exact ⟨ih.1, ih.2.1, by rw [ih.2.2, hl]⟩
theorem entsGo_of : ∀ (l : List Ent) (p : Option Int), (∀ x ∈ l, oneP x = true) → SortedE l → (∀ q, p = some q → ∀ x ∈ l, q < x.key) → entsGo l p = true
  | [], _, _, _, _ => rfl
  | e :: l, p, h1, h2, h3 => by
    have hs := List.pairwise_cons.1 h2
    unfold entsGo
    rw [h1 e (by simp), entsGo_of l (some e.key) (fun x hx => h1 x (by simp [hx])) hs.2 (fun q hq x hx => by cases hq; exact hs.1 x hx)]
    cases p with
    | none => rfl
    | some q => have := h3 q rfl e (by simp); simp [above]; exact this
theorem EntOk.one {T : Int} {e : Ent} (h : EntOk T e) (hT : T ≤ 1048576) (hk : 0 ≤ e.key ∧ e.key ≤ 1048576) : oneP e = true := by
  obtain ⟨h1, h2, h3, h4⟩ := h
  unfold oneP inP
  simp
  refine ⟨⟨⟨⟨hk, by omega⟩, by omega⟩, by omega⟩, ?_⟩
  cases hg : e.gone with
  | false => exact .inl rfl
  | true => right; have := h4 hg; omega
theorem may_ls {T : Int} {r : List Slot} (h : Keyed T 0 r) (hT : T ≤ 1048576) (hl : r.length ≤ 8) : mayP (lsS r) = true := by
  have h2 := lsS_len r
  unfold mayP
  rw [entsGo_of (lsS r) none (fun x hx => (lsS_mem h hx).2.one hT (by have := (lsS_mem h hx).1; omega)) (sorted_ls r 0 h) (fun q hq => by cases hq)]
  simp
  omega
theorem merge_ls {T : Int} {a : List Slot} {b : List Ent} (ha : Keyed T 0 a) (hT : T ≤ 1048576) (la : a.length = 8) (hb : mayP b = true) (hbe : ∀ e ∈ b, e.key < 8 ∧ EntOk T e) :
    (mergeP (lsS a) b).1 = lsS (b.foldl (fun r e => upd r e.key.toNat e) a) ∧ Keyed T 0 (b.foldl (fun r e => upd r e.key.toNat e) a) ∧ (b.foldl (fun r e => upd r e.key.toNat e) a).length = 8 := by
  have hf := mayP_facts hb
  obtain ⟨h1, h2, h3⟩ := fold_ls b a ha (fun e he => ⟨⟨(hf.2.1 e he).1, by rw [la]; exact (hbe e he).1⟩, (hbe e he).2⟩)
  refine ⟨?_, h2, by rw [h3, la]⟩
  unfold mergeP
  rw [may_ls ha hT (by omega), hb]
  rw [h1]
  have := lsS_len (b.foldl (fun r e => upd r e.key.toNat e) a)
  rw [h3, la] at this
  simp only [Bool.and_self, if_true]
  rw [if_neg (by omega)]
theorem time_ls : ∀ (r : List Slot) (t : Int), timeL (lsS r) t = timeS r t
  | [], t => rfl
  | s :: r, t => by
    rw [lsS_cons]
    unfold timeS timeL
    rw [List.foldl_cons]
    cases hb : s.2 with
    | false =>
      simp only [Bool.false_and, Bool.false_eq_true, if_false]
      exact time_ls r t
    | true =>
      simp only [Bool.true_and, if_true, List.foldl_cons, decide_eq_true_eq]
      have := time_ls r (if t < s.1.time then s.1.time else t)
      unfold timeS timeL at this
      rw [← this]
      congr 1
      rw [Int.max_def]
      split <;> split <;> omega
theorem time_le {T : Int} : ∀ (r : List Slot) (t : Int), (∀ s ∈ r, s.2 = true → s.1.time ≤ T) → t ≤ T → t ≤ timeS r t ∧ timeS r t ≤ T ∧ ∀ s ∈ r, s.2 = true → s.1.time ≤ timeS r t
  | [], t, _, h => ⟨Int.le_refl _, h, by simp⟩
  | s :: r, t, h, ht => by
    unfold timeS
    rw [List.foldl_cons]
    have hs := h s (by simp)
    have ih := time_le r (if s.2 && decide (t < s.1.time) then s.1.time else t) (fun x hx => h x (by simp [hx])) (by
      split
      · rename_i h1; simp at h1; exact hs h1.1
      · exact ht)
    unfold timeS at ih
    refine ⟨?_, ih.2.1, fun x hx hx2 => ?_⟩
    · refine Int.le_trans ?_ ih.1
      split
      · rename_i h1; simp at h1; omega
      · exact Int.le_refl _
    · rcases List.mem_cons.1 hx with rfl | hx
      · refine Int.le_trans ?_ ih.1
        rw [hx2]
        simp only [Bool.true_and, decide_eq_true_eq]
        split <;> omega
      · exact ih.2.2 x hx hx2
/-- what is found at a place -/
def slotF : Option Slot → Ent × Bool
  | some (e, true) => (e, !e.gone)
  | _ => (Ent.zero, false)
theorem find_ls {T : Int} : ∀ (r : List Slot) (k0 i : Nat), Keyed T k0 r → i < r.length → findE (lsS r) ((k0 + i : Nat) : Int) = slotF r[i]?
  | [], _, _, _, h => by simp at h
  | s :: r, k0, 0, hk, _ => by
    obtain ⟨x, b⟩ := s
    rw [lsS_cons]
    cases b with
    | true =>
      have hx := (hk 0 (x, true) rfl rfl).1
      simp only [if_true, List.getElem?_cons_zero]
      unfold findE
      rw [if_pos hx]
      rfl
    | false =>
      simp only [Bool.false_eq_true, if_false, List.getElem?_cons_zero]
      have hfr : ∀ z ∈ lsS r, ((k0 + 0 : Nat) : Int) < z.key := fun z hz => by have := (lsS_mem hk.tail hz).1; omega
      generalize lsS r = L at hfr
      induction L with
      | nil => rfl
      | cons z L ih =>
        have := hfr z (by simp)
        unfold findE
        rw [if_neg (by omega)]
        exact ih fun y hy => hfr y (by simp [hy])
  | s :: r, k0, i + 1, hk, hl => by
    have ih := find_ls r (k0 + 1) i hk.tail (by simpa using hl)
    rw [show k0 + 1 + i = k0 + (i + 1) by omega] at ih
    rw [List.getElem?_cons_succ, lsS_cons]
    split
    · rename_i h2
      have hx := (hk 0 s rfl h2).1
      unfold findE
      rw [if_neg (by omega)]
      exact ih
    · exact ih
end Go.Proofs.Ythmnfbnaeggknaa
