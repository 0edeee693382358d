/- A step's line read, plainly: words by blanks; numerals. Conditions: none beyond what each theorem states. -/
import Derived.Test.YtcmkcgegdclllaaDoorDesP
import Derived.Lib.SplitLaws
import Derived.Lib.AtoiAllCases
namespace Go.Proofs.YtcmkcgegdclllaaDoor
open Go.RowKit
set_option linter.unusedVariables false

/-! ### words by blanks -/
def glueL (w : List UInt8) : List (List UInt8) → List (List UInt8)
  | [] => [w]
  | x :: r => (w ++ x) :: r
def cutL : List UInt8 → List (List UInt8)
  | [] => [[]]
  | c :: r => if c = 32 then [] :: cutL r else glueL [c] (cutL r)
theorem cutL_cons (c : UInt8) (r : List UInt8) : cutL (c :: r) = if c = 32 then [] :: cutL r else glueL [c] (cutL r) := rfl
theorem cutL_ne (l : List UInt8) : cutL l ≠ [] := by
  cases l with
  | nil => simp [cutL]
  | cons c r =>
    unfold cutL
    split
    · simp
    · unfold glueL; split <;> simp
theorem glue_nil (l : List UInt8) : glueL [] (cutL l) = cutL l := by
  have := cutL_ne l
  unfold glueL
  split
  · simp_all
  · simp_all
theorem glue_glue (a b : List UInt8) (l : List (List UInt8)) (h : l ≠ []) : glueL a (glueL b l) = glueL (a ++ b) l := by
  cases l with
  | nil => exact absurd rfl h
  | cons x r => simp [glueL]
theorem cut_at (L : List UInt8) (i : Nat) (h : i < L.length) : cutL (L.drop i) = if L[i] = 32 then [] :: cutL (L.drop (i + 1)) else glueL [L[i]] (cutL (L.drop (i + 1))) := by
  rw [List.drop_eq_getElem_cons h]
  rfl
theorem cut_end (L : List UInt8) : cutL (L.drop L.length) = [[]] := by rw [List.drop_length]; rfl
theorem cut_len : ∀ (L : List UInt8), (cutL L).length = L.count 32 + 1
  | [] => rfl
  | c :: r => by
    have ih := cut_len r
    unfold cutL
    by_cases h : c = 32
    · subst h
      simp [ih]
    · rw [if_neg h, List.count_cons_of_ne (by simpa using h)]
      generalize hg : cutL r = g at ih
      cases g with
      | nil => exact absurd hg (cutL_ne r)
      | cons x t => simpa [glueL] using ih
theorem index_other (c : UInt8) (r : List UInt8) (h : c ≠ 32) : Lib.index (c :: r) [32] = if Lib.index r [32] == -1 then -1 else Lib.index r [32] + 1 := by
  have hp : ([32] : List UInt8).isPrefixOf (c :: r) = false := by simp [List.isPrefixOf, Ne.symm h]
  rw [Lib.index, hp]
  simp
theorem split_cut : ∀ (L : List UInt8), Lib.splitK [32] 0 (L.count 32) L = cutL L
  | [] => rfl
  | c :: r => by
    have ih := split_cut r
    unfold cutL
    by_cases h : c = 32
    · subst h
      have hix : Lib.index (32 :: r) [32] = ((0 : Nat) : Int) := by rw [Lib.index]; simp [List.isPrefixOf]
      rw [if_pos rfl, List.count_cons_self, Lib.splitK, hix, ← ih]
      simp
    · rw [if_neg h, List.count_cons_of_ne (by simpa using h), ← ih]
      cases hk : r.count 32 with
      | zero => rfl
      | succ k =>
        rw [Lib.splitK, Lib.splitK, index_other c r h]
        by_cases hm : Lib.index r [32] = -1
        · simp [hm, glueL]
        · have hge := Lib.index_ge r [32]
          obtain ⟨j, hj⟩ : ∃ j : Nat, Lib.index r [32] = j := ⟨(Lib.index r [32]).toNat, by omega⟩
          rw [hj, if_neg (by first | (simp; done) | (simp; omega)), if_neg (by first | (simp; done) | (simp; omega)), if_neg (by first | (simp; done) | (simp; omega))]
          have e : ((j : Int) + 1).toNat = j + 1 := by omega
          have e2 : ((j : Int)).toNat = j := by omega
          rw [e, e2]
          simp [glueL]
theorem cut_none : ∀ (x : List UInt8), 32 ∉ x → cutL x = [x]
  | [], _ => rfl
  | c :: r, h => by
    have h1 : c ≠ 32 := fun e => h (by simp [e])
    unfold cutL
    rw [if_neg h1, cut_none r (fun e => h (by simp [e]))]
    rfl
theorem cut_blank : ∀ (x t : List UInt8), 32 ∉ x → cutL (x ++ 32 :: t) = x :: cutL t
  | [], t, _ => by simp [cutL]
  | c :: r, t, h => by
    have h1 : c ≠ 32 := fun e => h (by simp [e])
    rw [List.cons_append, cutL_cons, if_neg h1, cut_blank r t (fun e => h (by simp [e]))]
    rfl
theorem cut_join : ∀ (r : List (List UInt8)) (x : List UInt8), (∀ y ∈ x :: r, 32 ∉ y) → cutL (Lib.join (x :: r) [32]) = x :: r
  | [], x, h => by rw [Lib.join_one]; exact cut_none x (h x (by simp))
  | y :: r, x, h => by
    have e : Lib.join (x :: y :: r) [32] = x ++ 32 :: Lib.join (y :: r) [32] := by
      rw [Lib.join_cons, Lib.join_cons]
      simp [Lib.joinTail]
    rw [e, cut_blank _ _ (h x (by simp)), cut_join r y (fun z hz => h z (by simp at hz ⊢; right; exact hz))]
theorem join_glue (c : UInt8) (l : List (List UInt8)) (h : l ≠ []) : Lib.join (glueL [c] l) [32] = c :: Lib.join l [32] := by
  cases l with
  | nil => exact absurd rfl h
  | cons x r => simp [glueL, Lib.join_cons]
theorem join_cut : ∀ (L : List UInt8), Lib.join (cutL L) [32] = L
  | [] => by simp [cutL, Lib.join_one]
  | c :: r => by
    have ih := join_cut r
    unfold cutL
    by_cases h : c = 32
    · rw [if_pos h]
      subst h
      generalize hg : cutL r = g at ih
      cases g with
      | nil => exact absurd hg (cutL_ne r)
      | cons x t =>
        rw [← ih, Lib.join_cons, Lib.join_cons]
        simp [Lib.joinTail]
    · rw [if_neg h, join_glue c _ (cutL_ne r), ih]
/-! ### numerals -/
theorem dec_mem (m : Nat) : ∀ c ∈ Lib.decDigits m, 48 ≤ c.toNat ∧ c.toNat ≤ 57 := by
  induction m using Nat.strongRecOn with
  | ind m ih =>
    intro c hc
    by_cases h : m < 10
    · rw [decDigits_low m h, List.mem_singleton] at hc
      subst hc
      have : (UInt8.ofNat (48 + m)).toNat = 48 + m := by simp; omega
      omega
    · rw [decDigits_high m h, List.mem_append, List.mem_singleton] at hc
      rcases hc with hc | hc
      · exact ih (m / 10) (by omega) c hc
      · subst hc
        have : (UInt8.ofNat (48 + m % 10)).toNat = 48 + m % 10 := by simp; omega
        omega
theorem dec_ne (m : Nat) : Lib.decDigits m ≠ [] := by
  by_cases h : m < 10
  · rw [decDigits_low m h]; simp
  · rw [decDigits_high m h]; simp
theorem itoa_blank (n : Int) : 32 ∉ Lib.itoa n := by
  intro h
  unfold Lib.itoa at h
  split at h
  · rw [List.mem_cons] at h
    rcases h with h | h
    · exact absurd h (by decide)
    · have := dec_mem _ _ h
      simp at this
  · have := dec_mem _ _ h
    simp at this
theorem parse_digit (acc d : Nat) (l : List UInt8) (hd : d < 10) (h : acc * 10 + d < 18446744073709551616) : Lib.parseUint10 acc (UInt8.ofNat (48 + d) :: l) = Lib.parseUint10 (acc * 10 + d) l := by
  have e : (UInt8.ofNat (48 + d)).toNat = 48 + d := by simp; omega
  rw [Lib.parseUint10, e, if_pos (by omega), if_neg (by omega), if_neg (by omega)]
  congr 1
  omega
theorem parse_dec (m : Nat) : ∀ l, m < 18446744073709551616 → Lib.parseUint10 0 (Lib.decDigits m ++ l) = Lib.parseUint10 m l := by
  induction m using Nat.strongRecOn with
  | ind m ih =>
    intro l hm
    by_cases h : m < 10
    · rw [decDigits_low m h]
      have := parse_digit 0 m l h (by omega)
      simpa using this
    · rw [decDigits_high m h, List.append_assoc, ih (m / 10) (by omega) _ (by omega), List.singleton_append, parse_digit _ _ _ (by omega) (by omega)]
      congr 1
      omega
theorem parseMag_dec (m : Nat) (hm : m < 18446744073709551616) : Lib.parseMag (Lib.decDigits m) = .ok m := by
  unfold Lib.parseMag
  rw [if_neg (dec_ne m)]
  have := parse_dec m [] hm
  rw [List.append_nil] at this
  rw [this]
  rfl
theorem atoi_itoa (n : Int) (h0 : -9223372036854775808 ≤ n) (h1 : n ≤ 9223372036854775807) : Lib.atoiAll (Lib.itoa n) = .ok n := by
  unfold Lib.itoa
  split
  · rw [Lib.atoiAll_minus, parseMag_dec _ (by omega)]
    unfold Lib.signed
    dsimp only
    rw [if_neg (by omega)]
    congr 1
    omega
  · have hm := dec_mem n.toNat
    have hp := parseMag_dec n.toNat (by omega)
    generalize hg : Lib.decDigits n.toNat = g at hm hp
    cases g with
    | nil => exact absurd hg (dec_ne _)
    | cons c r =>
      have hc := hm c (by simp)
      rw [Lib.atoiAll_plain c r (by omega) (by omega), hp]
      unfold Lib.signless
      dsimp only
      rw [if_neg (by omega)]
      congr 1
      omega
theorem itoa_inj {a b : Int} (ha : -9223372036854775808 ≤ a ∧ a ≤ 9223372036854775807) (hb : -9223372036854775808 ≤ b ∧ b ≤ 9223372036854775807) (h : Lib.itoa a = Lib.itoa b) : a = b := by
  have h1 := atoi_itoa a ha.1 ha.2
  rw [h, atoi_itoa b hb.1 hb.2] at h1
  injection h1 with h1
  exact h1.symm
/-! ### the reference's numeral -/
def uStep (neg : Bool) (acc : Int) (c : UInt8) : Int := if neg = true then wrap64 (wrap64 (10 * acc) - ((c.toNat : Int) - 48)) else wrap64 (wrap64 (10 * acc) + ((c.toNat : Int) - 48))
def uGo (neg : Bool) : Nat → Int → List UInt8 → Option Int
  | _, acc, [] => some acc
  | i, acc, c :: r => if i = 0 ∧ c.toNat = 45 then uGo neg (i + 1) acc r else if c.toNat < 48 ∨ 57 < c.toNat ∨ 20 < i then none else uGo neg (i + 1) (uStep neg acc c) r
def negL (L : List UInt8) : Bool := L.head? == some 45
def undP (L : List UInt8) : Int × Bool := match uGo (negL L) 0 0 L with | none => (0, false) | some n => (n, Lib.itoa n == L)
theorem uGo_range (neg : Bool) : ∀ (l : List UInt8) (i : Nat) (acc n : Int), -9223372036854775808 ≤ acc → acc ≤ 9223372036854775807 → uGo neg i acc l = some n → -9223372036854775808 ≤ n ∧ n ≤ 9223372036854775807
  | [], i, acc, n, h0, h1, h => by
    simp only [uGo, Option.some.injEq] at h
    omega
  | c :: r, i, acc, n, h0, h1, h => by
    simp only [uGo] at h
    split at h
    · exact uGo_range neg r _ _ n h0 h1 h
    · split at h
      · cases h
      · refine uGo_range neg r _ _ n ?_ ?_ h <;> (unfold uStep; split <;> (unfold wrap64; omega))
theorem undP_true {L : List UInt8} {n : Int} (h : undP L = (n, true)) : Lib.itoa n = L ∧ -9223372036854775808 ≤ n ∧ n ≤ 9223372036854775807 := by
  unfold undP at h
  split at h
  · cases h
  · rename_i m hm
    have h1 := Prod.mk.inj h
    obtain rfl := h1.1
    exact ⟨by simpa using h1.2, uGo_range _ _ _ _ _ (by omega) (by omega) hm⟩
theorem uGo_dec (m : Nat) : ∀ (neg : Bool) (i : Nat) (l : List UInt8), (i = 0 → neg = false) → m < 9223372036854775808 ∨ (neg = true ∧ m ≤ 9223372036854775808) → i + (Lib.decDigits m).length ≤ 21 →
    uGo neg i 0 (Lib.decDigits m ++ l) = uGo neg (i + (Lib.decDigits m).length) (if neg = true then -(m : Int) else m) l := by
  induction m using Nat.strongRecOn with
  | ind m ih =>
    intro neg i l hi hm hl
    have stp : ∀ (d : Nat) (acc : Int) (k : Nat), d < 10 → k ≤ 20 → uGo neg k acc (UInt8.ofNat (48 + d) :: l) = uGo neg (k + 1) (if neg = true then wrap64 (wrap64 (10 * acc) - d) else wrap64 (wrap64 (10 * acc) + d)) l := fun d acc k hd hk => by
      have e : (UInt8.ofNat (48 + d)).toNat = 48 + d := by simp; omega
      rw [uGo, e, if_neg (by omega), if_neg (by omega)]
      unfold uStep
      rw [e, show ((48 + d : Nat) : Int) - 48 = d by omega]
    by_cases h : m < 10
    · rw [decDigits_low m h] at hl ⊢
      rw [List.singleton_append, stp m 0 i h (by simp at hl; omega)]
      congr 1
      cases neg
      · simp; unfold wrap64; omega
      · simp; unfold wrap64; omega
    · rw [decDigits_high m h, List.length_append] at hl ⊢
      simp only [List.length_singleton] at hl ⊢
      rw [List.append_assoc, List.singleton_append]
      have e := ih (m / 10) (by omega) neg i (UInt8.ofNat (48 + m % 10) :: l) hi (by omega) (by omega)
      rw [e, stp (m % 10) _ _ (by omega) (by omega), Nat.add_assoc]
      congr 1
      cases neg
      · have hm' : m < 9223372036854775808 := by
          rcases hm with h | h
          · exact h
          · cases h.1
        have a1 : wrap64 (10 * ((m / 10 : Nat) : Int)) = ((10 * (m / 10) : Nat) : Int) := by unfold wrap64; omega
        have a2 : wrap64 (((10 * (m / 10) : Nat) : Int) + ((m % 10 : Nat) : Int)) = (m : Int) := by
          rw [show ((10 * (m / 10) : Nat) : Int) + ((m % 10 : Nat) : Int) = (m : Int) by omega]
          unfold wrap64
          omega
        rw [if_neg (by simp), if_neg (by simp), if_neg (by simp), a1, a2]
      · have a1 : wrap64 (10 * (-((m / 10 : Nat) : Int))) = -((10 * (m / 10) : Nat) : Int) := by unfold wrap64; omega
        have a2 : wrap64 (-((10 * (m / 10) : Nat) : Int) - ((m % 10 : Nat) : Int)) = -(m : Int) := by
          rw [show -((10 * (m / 10) : Nat) : Int) - ((m % 10 : Nat) : Int) = -(m : Int) by omega]
          unfold wrap64
          omega
        rw [if_pos rfl, if_pos rfl, if_pos rfl, a1, a2]
theorem und_itoa {n : Int} (h0 : -9223372036854775808 ≤ n) (h1 : n ≤ 9223372036854775807) : undP (Lib.itoa n) = (n, true) := by
  have hgo : uGo (negL (Lib.itoa n)) 0 0 (Lib.itoa n) = some n := by
    have hlen := itoa_len n h0 h1
    unfold Lib.itoa at hlen ⊢
    split
    · rename_i hn
      rw [if_pos hn] at hlen
      have e := uGo_dec n.natAbs true 1 [] (by omega) (Or.inr ⟨rfl, by omega⟩) (by simp at hlen; omega)
      rw [List.append_nil] at e
      show uGo true 0 0 (45 :: Lib.decDigits n.natAbs) = some n
      rw [uGo, if_pos ⟨rfl, rfl⟩, e]
      simp [uGo]
      omega
    · rename_i hn
      rw [if_neg hn] at hlen
      have hneg : negL (Lib.decDigits n.toNat) = false := by
        unfold negL
        have hm := dec_mem n.toNat
        generalize hg : Lib.decDigits n.toNat = g at hm
        cases g with
        | nil => rfl
        | cons c r =>
          have hc := hm c (by simp)
          have : c ≠ 45 := fun e => by subst e; simp at hc
          simpa using this
      rw [hneg]
      have e := uGo_dec n.toNat false 0 [] (fun _ => rfl) (by omega) (by omega)
      rw [List.append_nil] at e
      rw [e]
      simp [uGo]
      omega
  unfold undP
  rw [hgo]
  simp
/-! ### what a line says -/
def I64 (n : Int) : Prop := -9223372036854775808 ≤ n ∧ n ≤ 9223372036854775807
def RepL (L : List UInt8) (m : Nat) (ns : List Int) : Prop := m < 11 ∧ ns.length = (selL m).length ∧ (∀ n ∈ ns, I64 n) ∧ cutL L = wordL m :: ns.map Lib.itoa
def putS (xs : List Int) : List Nat → List Int → List Int
  | j :: l, n :: ns => putS (xs.set j n) l ns
  | _, _ => xs
def zeroS (m : Nat) : List Int := [(m : Int) + 1, 0, 0, 0, 0, 0, 0, 0]
def ansS (m : Nat) (ns : List Int) : List Int := putS (zeroS m) (selL m) ns
theorem wordL_inj : ∀ a b : Fin 11, wordL a.val = wordL b.val → a = b := by decide +kernel
theorem wordL_blank : ∀ a : Fin 11, 32 ∉ wordL a.val := by decide +kernel
theorem map_itoa_inj : ∀ {a b : List Int}, (∀ n ∈ a, I64 n) → (∀ n ∈ b, I64 n) → a.map Lib.itoa = b.map Lib.itoa → a = b
  | [], [], _, _, _ => rfl
  | [], y :: b, _, _, h => by simp at h
  | x :: a, [], _, _, h => by simp at h
  | x :: a, y :: b, ha, hb, h => by
    simp only [List.map_cons, List.cons.injEq] at h
    rw [itoa_inj (ha x (by simp)) (hb y (by simp)) h.1, map_itoa_inj (fun n hn => ha n (by simp [hn])) (fun n hn => hb n (by simp [hn])) h.2]
theorem RepL.uniq {L : List UInt8} {m m' : Nat} {ns ns' : List Int} (h : RepL L m ns) (h' : RepL L m' ns') : m = m' ∧ ns = ns' := by
  obtain ⟨a, _, c, d⟩ := h
  obtain ⟨a', _, c', d'⟩ := h'
  rw [d] at d'
  have e := List.cons.inj d'
  have := wordL_inj ⟨m, a⟩ ⟨m', a'⟩ e.1
  exact ⟨by simpa using this, map_itoa_inj c c' e.2⟩
/-- what the answer is -/
def AnsAt (L : List UInt8) (xs : List Int) (e : Int) : Prop := (∃ m ns, RepL L m ns ∧ xs = ansS m ns ∧ e = 0) ∨ ((∀ m ns, ¬ RepL L m ns) ∧ xs = [0, 0, 0, 0, 0, 0, 0, 0] ∧ e = 4)
theorem AnsAt.uniq {L : List UInt8} {xs ys : List Int} {e f : Int} (h : AnsAt L xs e) (h' : AnsAt L ys f) : xs = ys ∧ e = f := by
  rcases h with ⟨m, ns, r, rfl, rfl⟩ | ⟨r, rfl, rfl⟩ <;> rcases h' with ⟨m', ns', r', rfl, rfl⟩ | ⟨r', rfl, rfl⟩
  · obtain ⟨rfl, rfl⟩ := r.uniq r'
    exact ⟨rfl, rfl⟩
  · exact absurd r (r' _ _)
  · exact absurd r' (r _ _)
  · exact ⟨rfl, rfl⟩
/-! ### the reference's answer -/
/-- the numbers behind the first word, four at the most -/
def NumsOK (L : List UInt8) (N : List Int) : Prop := N.length = 5 ∧ ∀ i, 1 ≤ i → i < 5 → (∀ w, (cutL L)[i]? = some w → undP w = (fld N i, true)) ∧ ((cutL L)[i]? = none → fld N i = 0)
def refS (m : Nat) (N : List Int) : List Int := putS (zeroS m) (selL m) [fld N 1, fld N 2, fld N 3, fld N 4]
def RefAt (L : List UInt8) (xs : List Int) (e : Int) : Prop :=
  (∃ m N, m < 11 ∧ NumsOK L N ∧ xs = refS m N ∧ showP xs = (L, 0) ∧ e = 0) ∨
  (xs = [0, 0, 0, 0, 0, 0, 0, 0] ∧ e = 4 ∧ ((∃ i w, 1 ≤ i ∧ (cutL L)[i]? = some w ∧ (undP w).2 = false) ∨ ∃ N, NumsOK L N ∧ ∀ m, m < 11 → showP (refS m N) ≠ (L, 0)))
theorem wordT_sel : ∀ m : Fin 11, ∀ N : List Int, ((selL m.val).map fun j => fld (refS m.val N) j) = [fld N 1, fld N 2, fld N 3, fld N 4].take (selL m.val).length ∧ (restL m.val).all (fun j => fld (refS m.val N) j == 0) = true ∧ fld (refS m.val N) 0 = (m.val : Int) + 1 := by
  intro m N
  match m with
  | ⟨0, _⟩ => exact ⟨rfl, rfl, rfl⟩
  | ⟨1, _⟩ => exact ⟨rfl, rfl, rfl⟩
  | ⟨2, _⟩ => exact ⟨rfl, rfl, rfl⟩
  | ⟨3, _⟩ => exact ⟨rfl, rfl, rfl⟩
  | ⟨4, _⟩ => exact ⟨rfl, rfl, rfl⟩
  | ⟨5, _⟩ => exact ⟨rfl, rfl, rfl⟩
  | ⟨6, _⟩ => exact ⟨rfl, rfl, rfl⟩
  | ⟨7, _⟩ => exact ⟨rfl, rfl, rfl⟩
  | ⟨8, _⟩ => exact ⟨rfl, rfl, rfl⟩
  | ⟨9, _⟩ => exact ⟨rfl, rfl, rfl⟩
  | ⟨10, _⟩ => exact ⟨rfl, rfl, rfl⟩
theorem putS_take : ∀ (sel : List Nat) (xs ns : List Int), putS xs sel ns = putS xs sel (ns.take sel.length)
  | [], xs, ns => by cases ns <;> simp [putS]
  | j :: l, xs, [] => by simp [putS]
  | j :: l, xs, n :: ns => by
    simp only [putS, List.length_cons, List.take_succ_cons]
    exact putS_take l _ ns
theorem nums_i64 {L : List UInt8} {N : List Int} (h : NumsOK L N) (i : Nat) (h1 : 1 ≤ i) (h5 : i < 5) : I64 (fld N i) := by
  cases hc : (cutL L)[i]? with
  | none => rw [(h.2 i h1 h5).2 hc]; unfold I64; omega
  | some w => exact (undP_true ((h.2 i h1 h5).1 w hc)).2
theorem showP_ref (m : Nat) (hm : m < 11) (N : List Int) : showP (refS m N) = (Lib.join (wordL m :: ([fld N 1, fld N 2, fld N 3, fld N 4].take (selL m).length).map Lib.itoa) [32], 0) := by
  obtain ⟨h1, h2, h3⟩ := wordT_sel ⟨m, hm⟩ N
  dsimp only at h1 h2 h3
  unfold showP
  have hk : ((m : Int) + 1).toNat - 1 = m := by omega
  rw [h3, if_neg (by omega), hk, if_pos h2, ← h1, List.map_map]
  rfl
theorem RefAt.ans {L : List UInt8} {xs : List Int} {e : Int} (h : RefAt L xs e) : AnsAt L xs e := by
  rcases h with ⟨m, N, hm, hN, rfl, hs, rfl⟩ | ⟨rfl, rfl, h⟩
  · refine Or.inl ⟨m, [fld N 1, fld N 2, fld N 3, fld N 4].take (selL m).length, ?_, by unfold refS ansS; rw [putS_take], rfl⟩
    have hl : ([fld N 1, fld N 2, fld N 3, fld N 4].take (selL m).length).length = (selL m).length := by
      have := (wordT_facts ⟨m, hm⟩).2.1
      simp only [List.length_take, List.length_cons, List.length_nil]
      dsimp only at this
      omega
    have hi : ∀ n ∈ [fld N 1, fld N 2, fld N 3, fld N 4].take (selL m).length, I64 n := fun n hn => by
      have := List.mem_of_mem_take hn
      simp only [List.mem_cons, List.not_mem_nil, or_false] at this
      rcases this with rfl | rfl | rfl | rfl <;> exact nums_i64 hN _ (by omega) (by omega)
    refine ⟨hm, hl, hi, ?_⟩
    rw [showP_ref m hm N] at hs
    rw [← (Prod.mk.inj hs).1]
    refine cut_join _ _ fun y hy => ?_
    rw [List.mem_cons] at hy
    rcases hy with rfl | hy
    · exact wordL_blank ⟨m, hm⟩
    · obtain ⟨n, _, rfl⟩ := List.mem_map.1 hy
      exact itoa_blank n
  · refine Or.inr ⟨fun m ns hr => ?_, rfl, rfl⟩
    obtain ⟨hm, hl, hi, hc⟩ := hr
    rcases h with ⟨i, w, h1, hw, hu⟩ | ⟨N, hN, hall⟩
    · rw [hc] at hw
      obtain ⟨j, rfl⟩ : ∃ j, i = j + 1 := ⟨i - 1, by omega⟩
      rw [List.getElem?_cons_succ] at hw
      obtain ⟨n, hn, rfl⟩ := List.mem_map.1 (List.mem_of_getElem? hw)
      rw [und_itoa (hi n hn).1 (hi n hn).2] at hu
      cases hu
    · refine hall m hm ?_
      rw [showP_ref m hm N]
      have h4 : (selL m).length ≤ 4 := (wordT_facts ⟨m, hm⟩).2.1
      have hns : [fld N 1, fld N 2, fld N 3, fld N 4].take (selL m).length = ns := by
        apply List.ext_getElem?
        intro j
        by_cases hj : j < (selL m).length
        · have hj5 : j + 1 < 5 := by omega
          obtain ⟨n, hn⟩ : ∃ n, ns[j]? = some n := ⟨ns[j]'(by omega), List.getElem?_eq_getElem _⟩
          have hcj : (cutL L)[j + 1]? = some (Lib.itoa n) := by rw [hc, List.getElem?_cons_succ, List.getElem?_map, hn]; rfl
          have hu := (hN.2 (j + 1) (by omega) hj5).1 _ hcj
          have hb := hi n (List.mem_of_getElem? hn)
          rw [und_itoa hb.1 hb.2] at hu
          rw [hn, (Prod.mk.inj hu).1, List.getElem?_take_of_lt hj]
          have : j = 0 ∨ j = 1 ∨ j = 2 ∨ j = 3 := by omega
          rcases this with rfl | rfl | rfl | rfl <;> rfl
        · rw [List.getElem?_eq_none (by rw [List.length_take]; omega), List.getElem?_eq_none (by omega)]
      rw [hns, ← hc, join_cut]
end Go.Proofs.YtcmkcgegdclllaaDoor
