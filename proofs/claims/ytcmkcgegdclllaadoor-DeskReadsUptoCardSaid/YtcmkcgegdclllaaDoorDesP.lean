/- A step's line, plainly; iterators over strings. Conditions: none beyond what each theorem states. -/
import Derived.Test.YtcmkcgegdclllaaDoorDesD
import Derived.Test.YtcmkcgegdclllaaDoorDesB
import Derived.Test.YtcmkcgegdclllaaDoorOwnG
import Derived.Lib.Join
namespace Go.Proofs.YtcmkcgegdclllaaDoor
open Go.RowKit
set_option linter.unusedVariables false

/-- the words of the kinds, and the fields that each names -/
def wordT : List (List UInt8 × List Nat) :=
  [([97, 115, 107], [1, 2, 3]), ([115, 101, 108, 108], [1, 2, 3]), ([104, 111, 108, 100], [1, 2, 3, 4]), ([99, 111, 110, 102, 105, 114, 109], [1, 2, 5]), ([99, 97, 110, 99, 101, 108], [1, 2, 5]), ([114, 101, 102, 117, 110, 100], [1, 2, 3]), ([112, 117, 116], [1, 6, 7, 3]), ([103, 101, 116], [1, 6, 7]), ([116, 105, 99, 107], []), ([100, 101, 108, 105, 118, 101, 114], [5]), ([108, 111, 115, 101], [5])]
def wordL (m : Nat) : List UInt8 := (wordT.getD m ([], [])).1
def selL (m : Nat) : List Nat := (wordT.getD m ([], [])).2
def letterU (j : Nat) : UInt8 := match j with | 1 => 119 | 2 => 105 | 3 => 99 | 4 => 108 | 5 => 100 | 6 => 98 | _ => 107
def signL (m : Nat) : List UInt8 := (selL m).map letterU
def restL (m : Nat) : List Nat := [1, 2, 3, 4, 5, 6, 7].filter fun j => !(selL m).contains j
def fld (xs : List Int) (j : Nat) : Int := xs.getD j 0
def showP (xs : List Int) : List UInt8 × Int :=
  if fld xs 0 < 1 ∨ 11 < fld xs 0 then ([], 3)
  else if ((restL ((fld xs 0).toNat - 1)).all fun j => fld xs j == 0) = true then (Lib.join (wordL ((fld xs 0).toNat - 1) :: (selL ((fld xs 0).toNat - 1)).map fun j => Lib.itoa (fld xs j)) [32], 0)
  else ([], 4)
/-- some fields struck -/
def zer (xs : List Int) : List Nat → List Int
  | [] => xs
  | j :: l => zer (xs.set j 0) l
theorem zer_snoc (j : Nat) : ∀ (l : List Nat) (xs : List Int), zer xs (l ++ [j]) = (zer xs l).set j 0
  | [], xs => rfl
  | i :: l, xs => zer_snoc j l (xs.set i 0)
theorem zer_len : ∀ (l : List Nat) (xs : List Int), (zer xs l).length = xs.length
  | [], xs => rfl
  | i :: l, xs => by rw [zer, zer_len l, List.length_set]
theorem zer_get (j : Nat) : ∀ (l : List Nat) (xs : List Int), fld (zer xs l) j = if j ∈ l then 0 else fld xs j
  | [], xs => by simp [zer]
  | i :: l, xs => by
    rw [zer, zer_get j l]
    by_cases h : j ∈ l
    · simp [h]
    · by_cases hi : j = i
      · subst hi
        simp only [h, if_false, List.mem_cons, true_or, if_true]
        unfold fld
        rw [List.getD_eq_getElem?_getD, List.getElem?_set]
        split
        · split <;> simp
        · simp_all
      · simp only [h, if_false, List.mem_cons, hi, or_self, if_false]
        unfold fld
        rw [List.getD_eq_getElem?_getD, List.getElem?_set_ne (fun e => hi e.symm), ← List.getD_eq_getElem?_getD]
theorem wordT_facts : ∀ m : Fin 11, (selL m.val).Nodup ∧ (selL m.val).length ≤ 4 ∧ (∀ j ∈ selL m.val, 1 ≤ j ∧ j ≤ 7) ∧ (∀ c ∈ signL m.val, c.toNat < 128) ∧ (wordL m.val).length ≤ 7 ∧ wordL m.val ≠ [] := by decide +kernel
theorem letter_key : ∀ j : Fin 8, 1 ≤ j.val → fldKeys[j.val - 1]? = some ((letterU j.val).toNat : Int) := by decide +kernel
theorem decDigits_len : ∀ (k m : Nat), m < 10 ^ (k + 1) → (Lib.decDigits m).length ≤ k + 1
  | 0, m, h => by rw [decDigits_low m (by simpa using h)]; simp
  | k + 1, m, h => by
    by_cases h10 : m < 10
    · rw [decDigits_low m h10]; simp
    · rw [decDigits_high m h10, List.length_append]
      have := decDigits_len k (m / 10) (by rw [Nat.pow_succ] at h; omega)
      simp
      omega
theorem itoa_len (n : Int) (h0 : -9223372036854775808 ≤ n) (h1 : n ≤ 9223372036854775807) : (Lib.itoa n).length ≤ 20 := by
  have hp : (10:Nat) ^ (18 + 1) = 10000000000000000000 := by decide
  unfold Lib.itoa
  split
  · have := decDigits_len 18 n.natAbs (by omega)
    simp
    omega
  · have := decDigits_len 18 n.toNat (by omega)
    omega
theorem joinTail_len (r : List (List UInt8)) (h : ∀ x ∈ r, x.length ≤ 20) : (Lib.joinTail [32] r).length ≤ 21 * r.length := by
  unfold Lib.joinTail
  induction r with
  | nil => simp
  | cons x r ih =>
    have h1 := h x (by simp)
    have h2 := ih (fun y hy => h y (by simp [hy]))
    simp only [List.map_cons, List.flatten_cons, List.length_append, List.length_cons]
    simp at h2 ⊢
    omega
theorem showP_neg {m : Nat} {xs Y : List Int} (hm : m < 11) (h0 : fld xs 0 = (m : Int) + 1) (hY : ∀ j, fld Y j = if j ∈ selL m then 0 else fld xs j) {j : Nat} (hj : 1 ≤ j ∧ j ≤ 7) (hne : ¬ fld Y j = 0) : showP xs = ([], 4) := by
  have hk : (fld xs 0).toNat - 1 = m := by omega
  unfold showP
  rw [if_neg (by omega), hk, if_neg]
  intro hall
  rw [List.all_eq_true] at hall
  have hnj : j ∉ selL m := fun h => hne (by rw [hY j, if_pos h])
  have hr : j ∈ restL m := by
    unfold restL
    rw [List.mem_filter]
    refine ⟨?_, by simpa using hnj⟩
    have h7 : j = 1 ∨ j = 2 ∨ j = 3 ∨ j = 4 ∨ j = 5 ∨ j = 6 ∨ j = 7 := by omega
    simp
    omega
  have := hall j hr
  rw [hY j, if_neg hnj] at hne
  exact hne (by simpa using this)
theorem showP_pos {m : Nat} {xs Y : List Int} (hm : m < 11) (h0 : fld xs 0 = (m : Int) + 1) (hY : ∀ j, fld Y j = if j ∈ selL m then 0 else fld xs j) (hz : ∀ j, 1 ≤ j → j ≤ 7 → fld Y j = 0) :
    showP xs = (Lib.join (wordL m :: (selL m).map fun j => Lib.itoa (fld xs j)) [32], 0) := by
  have hk : (fld xs 0).toNat - 1 = m := by omega
  unfold showP
  rw [if_neg (by omega), hk, if_pos]
  rw [List.all_eq_true]
  intro j hj
  unfold restL at hj
  rw [List.mem_filter] at hj
  have hnj : j ∉ selL m := by simpa using hj.2
  have h7 : 1 ≤ j ∧ j ≤ 7 := by have := hj.1; simp at this; omega
  have := hz j h7.1 h7.2
  rw [hY j, if_neg hnj] at this
  simpa using this
/-! ### iterators over strings -/
def IterAt (w : World) (r : Nat) (s : ByteArray) (pos : Nat) : Prop := w.heap[r]? = some (.stringIter s pos)
def posAt (w : World) (r : Nat) : Nat := match w.heap[r]? with | some (.stringIter _ p) => p | _ => 0
theorem IterAt.pos {w : World} {r pos : Nat} {s : ByteArray} (h : IterAt w r s pos) : posAt w r = pos := by unfold posAt; rw [h]
theorem IterAt.lt {w : World} {r pos : Nat} {s : ByteArray} (h : IterAt w r s pos) : r < w.heap.size := by
  rcases Nat.lt_or_ge r w.heap.size with h1 | h1
  · exact h1
  · unfold IterAt at h; rw [Array.getElem?_eq_none h1] at h; cases h
theorem IterAt.only {w w' : World} {r pos : Nat} {s : ByteArray} {D : Nat → Prop} (h : IterAt w r s pos) (ho : Only D w w') (hn : ¬ D r) : IterAt w' r s pos := (ho.block r h.lt hn).trans h
theorem IterAt.below {w w' : World} {r pos : Nat} {s : ByteArray} (h : IterAt w r s pos) (hb : Below w.heap.size w w') : IterAt w' r s pos := h.only (D := fun _ => False) (Only.of_below hb (fun x h1 h2 => by omega)) (fun e => e)
theorem IterAt.new (w : World) (s : ByteArray) : IterAt (w.iter s 0) w.heap.size s 0 := heap_alloc_new w _
/-- the iterator goes on -/
theorem iter_next {w : World} {r pos : Nat} {s : ByteArray} (h : IterAt w r s pos) (hp : pos < s.size) (ha : (s[pos]'hp).toNat < 128) :
    ∃ w', (∀ ty, (Instr.next (.pointer (some ⟨r, 0, none⟩)) true ty).run Tryd.prog w = .ok (.tuple #[.bool true, .int .i64 pos, .int .i32 (s[pos]'hp).toNat]) w') ∧ IterAt w' r s (pos + 1) ∧ Only (fun k => k = r) w w' := by
  have hr := h.lt
  refine ⟨{ w with heap := w.heap.setIfInBounds r (.stringIter s (pos + 1)) }, fun ty => by simp only [Instr.next, getObj, setObj, Sem.run_bind, Sem.run, show w.heap[r]? = some (.stringIter s pos) from h, Result.andThen, hp, if_true, decode_ascii s pos hp ha]; simp [goInt], ?_, rfl, rfl, rfl, by simp, fun k hk hn => ?_⟩
  · show (w.heap.setIfInBounds r _)[r]? = _
    simp [hr]
  · show (w.heap.setIfInBounds r _)[k]? = _
    rw [Array.getElem?_setIfInBounds_ne (fun e => hn e.symm)]
theorem iter_end {w : World} {r pos : Nat} {s : ByteArray} (h : IterAt w r s pos) (hp : ¬ pos < s.size) :
    ∀ ty, (Instr.next (.pointer (some ⟨r, 0, none⟩)) true ty).run Tryd.prog w = .ok (.tuple #[.bool false]) w := by
  intro ty
  simp [Instr.next, getObj, Sem.run, show w.heap[r]? = some (.stringIter s pos) from h, hp]
end Go.Proofs.YtcmkcgegdclllaaDoor
