/- Rumours, plainly. Conditions: none beyond what each theorem states. -/
import Derived.Test.YtbkciniikahjhaaWireP
import Derived.Test.YtbkciniikahjhaaFrameA
import Derived.Test.YtbkciniikahjhaaRegB
import Derived.Test.YtbkciniikahjhaaEnR
namespace Go.Proofs.Ytbkciniikahjhaa
open Go.RowKit
set_option linter.unusedVariables false

def goneN (e : Ent) : Nat := if e.gone then 1 else 0
/-- the number of a slot -/
def slotN (e : Ent) : Nat := (((2 + goneN e) * 256 + e.value.toNat) * 2097152 + e.time.toNat) * 8 + e.who.toNat
def keyE (l : List Ent) (k : Int) : Option Ent := l.find? fun e => decide (e.key = k)
def slotV (l : List Ent) (k : Int) : Nat := match keyE l k with | some e => slotN e | none => 0
def slotFs (l : List Ent) (k : Int) : List (Int × Int) := match keyE l k with
  | some e => [(1, 1), (1, goneN e), (8, e.value), (21, e.time), (3, e.who)]
  | none => [(34, 0)]
structure SlotOk (e : Ent) : Prop where
  value : 0 ≤ e.value ∧ e.value ≤ 255
  time : 0 ≤ e.time ∧ e.time ≤ 1048576
  who : 0 ≤ e.who ∧ e.who ≤ 7
theorem slotN_lt {e : Ent} (h : SlotOk e) : slotN e < 2 ^ 34 := by
  obtain ⟨h1, h2, h3⟩ := h
  have hg : goneN e ≤ 1 := by unfold goneN; split <;> omega
  unfold slotN
  omega
/-- bits of a number, the highest first -/
def nbits (n v : Nat) : List Nat := (List.range n).map fun k => v / 2 ^ (n - 1 - k) % 2
theorem fieldBits_eq (f : Int × Int) : fieldBits f = nbits f.1.toNat f.2.toNat := rfl
theorem nbits_len (n v : Nat) : (nbits n v).length = n := by simp [nbits]
theorem nbits_append (a b x y : Nat) (hy : y < 2 ^ b) : nbits (a + b) (x * 2 ^ b + y) = nbits a x ++ nbits b y := by
  apply List.ext_getElem?
  intro i
  rw [List.getElem?_append, nbits_len]
  unfold nbits
  simp only [List.getElem?_map]
  by_cases h1 : i < a
  · rw [if_pos h1, List.getElem?_range (by omega), List.getElem?_range h1]
    simp only [Option.map_some, Option.some.injEq]
    rw [show a + b - 1 - i = b + (a - 1 - i) by omega, Nat.pow_add, ← Nat.div_div_eq_div_mul, Nat.mul_comm x, Nat.mul_add_div (Nat.two_pow_pos b), Nat.div_eq_of_lt hy, Nat.add_zero]
  · rw [if_neg h1]
    by_cases h2 : i < a + b
    · rw [List.getElem?_range h2, List.getElem?_range (by omega)]
      simp only [Option.map_some, Option.some.injEq]
      rw [show a + b - 1 - i = b - 1 - (i - a) by omega]
      have hlt : b - 1 - (i - a) < b := by omega
      generalize b - 1 - (i - a) = j at hlt
      have e : 2 ^ b = 2 ^ j * 2 ^ (b - j) := by rw [← Nat.pow_add]; congr 1; omega
      rw [e, Nat.mul_comm x, Nat.mul_assoc, Nat.mul_add_div (Nat.two_pow_pos j)]
      have e2 : 2 ^ (b - j) = 2 * 2 ^ (b - j - 1) := by rw [show b - j = (b - j - 1) + 1 by omega, Nat.pow_succ]; simp; omega
      rw [e2, Nat.mul_assoc, Nat.mul_add_mod]
    · rw [List.getElem?_eq_none (by simp; omega), List.getElem?_eq_none (by simp; omega)]
      rfl
theorem slot_bits {e : Ent} (h : SlotOk e) : nbits 34 (slotN e) = allBits [(1, 1), (1, (goneN e : Int)), (8, e.value), (21, e.time), (3, e.who)] := by
  obtain ⟨h1, h2, h3⟩ := h
  have hg : goneN e ≤ 1 := by unfold goneN; split <;> omega
  unfold allBits
  simp only [List.flatMap_cons, List.flatMap_nil, List.append_nil, fieldBits_eq]
  show nbits 34 (slotN e) = nbits 1 1 ++ (nbits 1 (goneN e) ++ (nbits 8 e.value.toNat ++ (nbits 21 e.time.toNat ++ nbits 3 e.who.toNat)))
  unfold slotN
  rw [show (8 : Nat) = 2 ^ 3 from rfl, nbits_append 31 3 _ _ (by omega), show (2097152 : Nat) = 2 ^ 21 from rfl, nbits_append 10 21 _ _ (by omega), show (256 : Nat) = 2 ^ 8 from rfl, nbits_append 2 8 _ _ (by omega), show 2 + goneN e = 1 * 2 ^ 1 + goneN e from rfl, nbits_append 1 1 _ _ (by omega)]
  simp only [List.append_assoc]
theorem slotV_bits {l : List Ent} (h : ∀ e ∈ l, SlotOk e) (k : Int) : fieldBits (34, (slotV l k : Int)) = allBits (slotFs l k) := by
  unfold slotV slotFs
  rw [fieldBits_eq]
  cases hk : keyE l k with
  | none => rfl
  | some e =>
    have he := h e (List.mem_of_find?_eq_some hk)
    exact slot_bits he
theorem slotV_lt {l : List Ent} (h : ∀ e ∈ l, SlotOk e) (k : Int) : slotV l k < 2 ^ 34 := by
  unfold slotV
  cases hk : keyE l k with
  | none => simp
  | some e => exact slotN_lt (h e (List.mem_of_find?_eq_some hk))
/-- the labels in which both are -/
def bothGo (a b : Nat) : List Int → Nat → List Nat
  | [], _ => []
  | z :: ls, i => if z.toNat.testBit a && z.toNat.testBit b then i :: bothGo a b ls (i + 1) else bothGo a b ls (i + 1)
theorem bothGo_len (a b : Nat) : ∀ (ls : List Int) (i : Nat), (bothGo a b ls i).length ≤ ls.length
  | [], _ => Nat.le_refl _
  | z :: ls, i => by
    have := bothGo_len a b ls (i + 1)
    unfold bothGo
    split <;> simp <;> omega
theorem bothGo_mem (a b : Nat) : ∀ (ls : List Int) (i : Nat), ∀ x ∈ bothGo a b ls i, i ≤ x ∧ x < i + ls.length
  | [], _ => fun x hx => by simp [bothGo] at hx
  | z :: ls, i => fun x hx => by
    unfold bothGo at hx
    have ih := bothGo_mem a b ls (i + 1)
    split at hx
    · rcases List.mem_cons.1 hx with rfl | hx
      · simp
      · have := ih x hx; simp; omega
    · have := ih x hx; simp; omega
def slotsOf (l : List Ent) : List (Int × Int) := (List.range 8).map fun k : Nat => (34, (slotV l k : Int))
def rumFs (rows : List (List Ent)) (is : List Nat) : List (Int × Int) := is.flatMap fun i => slotsOf (rows.getD i [])
def badRow (l : List Ent) : Bool := l.any fun e => decide (8 ≤ e.key) || decide (255 < e.value)
def brOk (c : Cfg) (z : Int) : Bool := decide (0 ≤ z) && decide (z < c.br)
def rumourP (c : Cfg) (a b : Int) (rows : List (List Ent)) : List Int × Int :=
  if configP c = false then ([], 4)
  else if brOk c a = false ∨ brOk c b = false then ([], 2)
  else if rows.length ≠ c.la.zs.length then ([], 1)
  else if rows.any (fun l => !mayP l) = true then ([], 4)
  else if (bothGo a.toNat b.toNat c.la.zs 0).any (fun i => badRow (rows.getD i [])) = true then ([], 12)
  else (bytesOf (allBits (rumFs rows (bothGo a.toNat b.toNat c.la.zs 0))) (34 * (bothGo a.toNat b.toNat c.la.zs 0).length), 0)
theorem szGo_34 : ∀ (n : Nat) (b : Int), szGo (List.replicate n 34) b = ((b + 34 * n + 7) / 8, 0)
  | 0, b => by simp [szGo]
  | n + 1, b => by
    rw [List.replicate_succ, szGo, if_neg (by omega), szGo_34 n]
    congr 2
    omega
theorem rumFs_widths (rows : List (List Ent)) : ∀ is : List Nat, (rumFs rows is).map (·.1) = List.replicate (8 * is.length) 34
  | [] => rfl
  | i :: is => by
    have h := rumFs_widths rows is
    unfold rumFs at h ⊢
    rw [List.flatMap_cons, List.map_append, h]
    have e : (slotsOf (rows.getD i [])).map (·.1) = List.replicate 8 34 := by simp [slotsOf, List.range_succ]
    rw [e, List.replicate_append_replicate]
    congr 1
    simp; omega
theorem rum_pack (rows : List (List Ent)) (is : List Nat) (hl : is.length ≤ 4) (h : ∀ i ∈ is, ∀ e ∈ rows.getD i [], SlotOk e) : packP (rumFs rows is) = (bytesOf (allBits (rumFs rows is)) (34 * is.length), 0) := by
  unfold packP
  have hs : sizeP ((rumFs rows is).map (·.1)) = (((34 * is.length : Nat) : Int), 0) := by
    rw [rumFs_widths]
    unfold sizeP
    rw [List.length_replicate, if_neg (by omega), szGo_34]
    congr 1
    omega
  rw [hs]
  dsimp only
  rw [if_neg (by simp), if_pos, Int.toNat_natCast]
  rw [List.all_eq_true]
  intro f hf
  unfold rumFs at hf
  obtain ⟨i, hi, hf⟩ := List.mem_flatMap.1 hf
  unfold slotsOf at hf
  obtain ⟨k, hk, rfl⟩ := List.mem_map.1 hf
  have := slotV_lt (h i hi) k
  generalize slotV (rows.getD i []) k = v at this
  unfold fitsF
  simp
  omega
end Go.Proofs.Ytbkciniikahjhaa
