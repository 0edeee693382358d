/- What a record tells, plainly; packed again it is the record just if every slot is good. Conditions: none beyond what each theorem states. -/
import Derived.Test.YtbkciniikahjhaaRumI
import Derived.Test.YtbkciniikahjhaaWireU
import Derived.Test.YtbkciniikahjhaaWireW
namespace Go.Proofs.Ytbkciniikahjhaa
open Go.RowKit
set_option linter.unusedVariables false

/-- the number of the k-th slot of a record -/
def slN (bs : List Int) (k : Nat) : Nat := fv (bitB bs) (34 * k) 34
theorem slN_lt (bs : List Int) (k : Nat) : slN bs k < 17179869184 := fv_lt _ (bitB_le bs) _ 34
def decE (key n : Nat) : Ent := ⟨key, ((n / 16777216 % 256 : Nat) : Int), ((n / 8 % 2097152 : Nat) : Int), ((n % 8 : Nat) : Int), decide (n / 4294967296 = 3)⟩
def isN (n : Nat) : Bool := decide (n / 8589934592 = 1)
theorem slotN_dec (key n : Nat) (hn : n < 17179869184) (h : isN n = true) : slotN (decE key n) = n := by
  unfold isN at h
  simp only [decide_eq_true_eq] at h
  unfold slotN goneN decE
  dsimp only
  simp only [Int.toNat_natCast, decide_eq_true_eq]
  split <;> omega
def pushH (R : List (List Ent)) (i : Nat) (e : Ent) : List (List Ent) := R.set i (R.getD i [] ++ [e])
def rowsN (bs : List Int) (is : List Nat) (ln : Nat) : Nat → List (List Ent)
  | 0 => List.replicate ln []
  | k + 1 => if isN (slN bs k) then pushH (rowsN bs is ln k) (is.getD (k / 8) 0) (decE (k % 8) (slN bs k)) else rowsN bs is ln k
theorem rowsN_len (bs : List Int) (is : List Nat) (ln k : Nat) : (rowsN bs is ln k).length = ln := by
  induction k with
  | zero => simp [rowsN]
  | succ k ih =>
    rw [rowsN]
    split
    · unfold pushH; rw [List.length_set, ih]
    · exact ih
def slotGood (key n : Nat) : Bool := decide (n = 0) || (isN n && oneP (decE key n))
def goodAll (bs : List Int) (m : Nat) : Bool := (List.range (8 * m)).all fun k => slotGood (k % 8) (slN bs k)
def heardP (c : Cfg) (a b : Int) (bs : List Int) : List (List Ent) × Int :=
  if configP c = false then ([], 4)
  else if brOk c a = false ∨ brOk c b = false then ([], 2)
  else if bs.length ≠ 34 * (bothGo a.toNat b.toNat c.la.zs 0).length then ([], 4)
  else if goodAll bs (bothGo a.toNat b.toNat c.la.zs 0).length = true then (rowsN bs (bothGo a.toNat b.toNat c.la.zs 0) c.la.zs.length (8 * (bothGo a.toNat b.toNat c.la.zs 0).length), 0)
  else ([], 4)
/-- the entries of a label, the first q keys -/
def decPart (bs : List Int) (p : Nat) : Nat → List Ent
  | 0 => []
  | q + 1 => decPart bs p q ++ (if isN (slN bs (8 * p + q)) then [decE q (slN bs (8 * p + q))] else [])
theorem decPart_key (bs : List Int) (p : Nat) : ∀ (q : Nat), ∀ e ∈ decPart bs p q, ∃ x : Nat, x < q ∧ e = decE x (slN bs (8 * p + x)) ∧ isN (slN bs (8 * p + x)) = true
  | 0 => fun e he => by simp [decPart] at he
  | q + 1 => fun e he => by
    unfold decPart at he
    rcases List.mem_append.1 he with h | h
    · obtain ⟨x, h1, h2, h3⟩ := decPart_key bs p q e h
      exact ⟨x, by omega, h2, h3⟩
    · split at h
      · rename_i h1
        rw [List.mem_singleton] at h
        exact ⟨q, by omega, h, h1⟩
      · cases h
theorem decPart_srt (bs : List Int) (p : Nat) : ∀ (q : Nat), (decPart bs p q).Pairwise fun x y => x.key < y.key
  | 0 => List.Pairwise.nil
  | q + 1 => by
    unfold decPart
    rw [List.pairwise_append]
    refine ⟨decPart_srt bs p q, by split <;> simp, fun x hx y hy => ?_⟩
    obtain ⟨z, h1, h2, _⟩ := decPart_key bs p q x hx
    split at hy
    · rw [List.mem_singleton] at hy
      rw [h2, hy]
      simp only [decE]
      omega
    · cases hy
theorem decPart_len (bs : List Int) (p : Nat) : ∀ (q : Nat), (decPart bs p q).length ≤ q
  | 0 => by simp [decPart]
  | q + 1 => by
    unfold decPart
    rw [List.length_append]
    have := decPart_len bs p q
    split <;> simp <;> omega
theorem decPart_find (bs : List Int) (p : Nat) : ∀ (q x : Nat), keyE (decPart bs p q) x = if x < q ∧ isN (slN bs (8 * p + x)) = true then some (decE x (slN bs (8 * p + x))) else none
  | 0, x => by simp [decPart, keyE]
  | q + 1, x => by
    unfold decPart
    have ih := decPart_find bs p q x
    split
    · rename_i h
      rw [keyE_snoc _ _ _ (fun y hy => by
        obtain ⟨z, h1, h2, _⟩ := decPart_key bs p q y hy
        rw [h2]; simp only [decE]; omega), ih]
      by_cases hx : x = q
      · subst hx
        rw [if_pos (by simp [decE]), if_pos ⟨by omega, h⟩]
      · rw [if_neg (by simp only [decE]; omega)]
        by_cases hq : x < q
        · simp [hq, show x < q + 1 by omega]
        · simp [hq, show ¬ x < q + 1 by omega]
    · rename_i h
      rw [List.append_nil, ih]
      by_cases hx : x = q
      · subst hx
        simp [h]
      · by_cases hq : x < q
        · simp [hq, show x < q + 1 by omega]
        · simp [hq, show ¬ x < q + 1 by omega]
theorem rowsN_get (bs : List Int) (is : List Nat) (ln m : Nat) (hm : is.length = m) (hnd : is.Nodup) (hlt : ∀ i ∈ is, i < ln) : ∀ (k : Nat), k ≤ 8 * m →
    (∀ p i : Nat, is[p]? = some i → (rowsN bs is ln k).getD i [] = decPart bs p (min 8 (k - 8 * p))) ∧ (∀ i : Nat, i ∉ is → (rowsN bs is ln k).getD i [] = [])
  | 0, _ => by
    refine ⟨fun p i hp => ?_, fun i hi => ?_⟩
    · rw [show min 8 (0 - 8 * p) = 0 by omega]
      simp [rowsN, decPart, List.getElem?_replicate]
      split <;> rfl
    · simp [rowsN, List.getElem?_replicate]
      split <;> rfl
  | k + 1, hk => by
    obtain ⟨h1, h2⟩ := rowsN_get bs is ln m hm hnd hlt k (by omega)
    have hp0 : is[k / 8]? = some (is[k / 8]'(by omega)) := List.getElem?_eq_getElem _
    generalize is[k / 8]'(by omega) = i0 at hp0
    have hi0 : is.getD (k / 8) 0 = i0 := by rw [List.getD_eq_getElem?_getD, hp0]; rfl
    have hl0 := hlt i0 (List.mem_of_getElem? hp0)
    have e8 : 8 * (k / 8) + k % 8 = k := by omega
    have hset : ∀ (e : Ent) (i : Nat), (pushH (rowsN bs is ln k) i0 e).getD i [] = if i = i0 then (rowsN bs is ln k).getD i0 [] ++ [e] else (rowsN bs is ln k).getD i [] := fun e i => by
      unfold pushH
      rw [List.getD_eq_getElem?_getD, List.getElem?_set]
      by_cases hi : i0 = i
      · subst hi
        rw [if_pos rfl, if_pos (by rw [rowsN_len]; exact hl0), if_pos rfl]
        rfl
      · rw [if_neg hi, if_neg (fun e => hi e.symm), List.getD_eq_getElem?_getD]
    have hmine : (rowsN bs is ln k).getD i0 [] = decPart bs (k / 8) (k % 8) := by
      rw [h1 (k / 8) i0 hp0, show min 8 (k - 8 * (k / 8)) = k % 8 by omega]
    have hstep : decPart bs (k / 8) (k % 8 + 1) = decPart bs (k / 8) (k % 8) ++ (if isN (slN bs k) then [decE (k % 8) (slN bs k)] else []) := by
      conv => lhs; unfold decPart
      rw [e8]
    rw [rowsN, hi0]
    refine ⟨fun p i hp => ?_, fun i hi => ?_⟩
    · by_cases hpk : p = k / 8
      · subst hpk
        obtain rfl : i = i0 := by rw [hp0] at hp; cases hp; rfl
        rw [show min 8 (k + 1 - 8 * (k / 8)) = k % 8 + 1 by omega, hstep]
        split
        · rw [hset, if_pos rfl, hmine]
        · rw [hmine, List.append_nil]
      · have hne : i ≠ i0 := fun e => hpk ((List.getElem?_inj (List.getElem?_eq_some_iff.1 hp).1 hnd).1 (by rw [hp, hp0, e]))
        have e1 : min 8 (k + 1 - 8 * p) = min 8 (k - 8 * p) := by omega
        rw [e1, ← h1 p i hp]
        split
        · rw [hset, if_neg hne]
        · rfl
    · have hne : i ≠ i0 := fun e => hi (e ▸ List.mem_of_getElem? hp0)
      split
      · rw [hset, if_neg hne]; exact h2 i hi
      · exact h2 i hi
theorem entsGo_mk : ∀ (l : List Ent) (p : Option Int), (∀ x ∈ l, oneP x = true) → (l.Pairwise fun x y => x.key < y.key) → (∀ q, p = some q → ∀ x ∈ l, q < x.key) → entsGo l p = true
  | [], _, _, _, _ => rfl
  | e :: l, p, h1, h2, h3 => by
    have hs := List.pairwise_cons.1 h2
    unfold entsGo
    rw [h1 e (by simp), entsGo_mk l (some e.key) (fun x hx => h1 x (by simp [hx])) hs.2 (fun q hq x hx => by cases hq; exact hs.1 x hx)]
    cases p with
    | none => rfl
    | some q => have := h3 q rfl e (by simp); simp [above]; exact this
theorem bothGo_nodup (a b : Nat) : ∀ (ls : List Int) (i : Nat), (bothGo a b ls i).Nodup
  | [], _ => List.nodup_nil
  | z :: ls, i => by
    have ih := bothGo_nodup a b ls (i + 1)
    unfold bothGo
    split
    · refine List.nodup_cons.2 ⟨fun h => ?_, ih⟩
      have := bothGo_mem a b ls (i + 1) i h
      omega
    · exact ih
theorem getD_bits (fs : List (Int × Int)) (h : ∀ f ∈ fs, f.1 = 34) (k j : Nat) (f : Int × Int) (hk : fs[k]? = some f) (hj : j < 34) : (allBits fs).getD (34 * k + j) 0 = f.2.toNat / 2 ^ (33 - j) % 2 := by
  have e : allBits fs = (fs.map fieldBits).flatten := by unfold allBits; rw [List.flatMap_def]
  rw [e, List.getD_eq_getElem?_getD, Nat.mul_comm 34 k, flatten_get 34 (fs.map fieldBits) (fun cs hcs => by
    obtain ⟨g, hg, rfl⟩ := List.mem_map.1 hcs
    rw [fieldBits_len, h g hg]; rfl) k j hj, List.getElem?_map, hk]
  have hf := h f (List.mem_of_getElem? hk)
  have := fieldBits_get f j (by rw [hf]; exact hj)
  simp only [Option.map_some, Option.bind_some]
  rw [this, hf]
  rfl
theorem fv_bits (v : Nat) (hv : v < 17179869184) : ∀ n, n ≤ 34 → fv (fun j => v / 2 ^ (33 - j) % 2) 0 n = v / 2 ^ (34 - n)
  | 0, _ => by rw [fv]; exact (Nat.div_eq_of_lt hv).symm
  | n + 1, h => by
    rw [fv, fv_bits v hv n (by omega), Nat.zero_add, show 34 - n = (33 - n) + 1 by omega, Nat.pow_succ, ← Nat.div_div_eq_div_mul, show 34 - (n + 1) = 33 - n by omega]
    omega
/-- the bits of a record that was packed -/
theorem bitB_packed (D : List Nat) (h1 : ∀ b ∈ D, b ≤ 1) (n k : Nat) (hk : k < 8 * n) : bitB (bytesOf D n) k = D.getD k 0 := by
  unfold bitB
  have e : (bytesOf D n).getD (k / 8) 0 = ((byteOf D (k / 8) : Nat) : Int) := by rw [List.getD_eq_getElem?_getD, bytesOf_get D n _ (by omega)]; rfl
  rw [e, Int.toNat_natCast]
  unfold byteOf
  rw [bitsVal_fv]
  have hf : ∀ k, (fun j => D.getD j 0) k ≤ 1 := fun k => by
    show D.getD k 0 ≤ 1
    rw [List.getD_eq_getElem?_getD]
    cases hg : D[k]? with
    | none => simp
    | some b => exact h1 b (List.mem_of_getElem? hg)
  have := fv_bit _ hf (8 * (k / 8)) 8 (k % 8) (Nat.mod_lt _ (by omega))
  rw [show 8 - 1 - k % 8 = 7 - k % 8 by omega] at this
  rw [this]
  show D.getD (8 * (k / 8) + k % 8) 0 = D.getD k 0
  congr 1
  omega
theorem rumFs_get (R : List (List Ent)) : ∀ (is : List Nat) (p i x : Nat), is[p]? = some i → x < 8 → (rumFs R is)[8 * p + x]? = some (34, ((slotV (R.getD i []) x : Nat) : Int))
  | [], p, i, x, h, _ => by simp at h
  | j :: is, 0, i, x, h, hx => by
    simp at h
    subst h
    unfold rumFs
    rw [List.flatMap_cons, List.getElem?_append_left (by rw [slotsOf_len]; omega), Nat.mul_zero, Nat.zero_add, slotsOf_get _ x hx]
  | j :: is, p + 1, i, x, h, hx => by
    have ih := rumFs_get R is p i x (by simpa using h) hx
    unfold rumFs at ih ⊢
    rw [List.flatMap_cons, List.getElem?_append_right (by rw [slotsOf_len]; omega), slotsOf_len, show 8 * (p + 1) + x - 8 = 8 * p + x by omega, ih]
theorem rumFs_34 (R : List (List Ent)) (is : List Nat) : ∀ f ∈ rumFs R is, f.1 = 34 := fun f hf => by
  unfold rumFs at hf
  obtain ⟨i, _, hf⟩ := List.mem_flatMap.1 hf
  unfold slotsOf at hf
  obtain ⟨k, _, rfl⟩ := List.mem_map.1 hf
  rfl
theorem heard_law (c : Cfg) (a b : Int) (bs : List Int) (hbs : ∀ z ∈ bs, 0 ≤ z ∧ z ≤ 255) (hcf : configP c = true) (hab : brOk c a = true ∧ brOk c b = true) (is : List Nat) (his : is = bothGo a.toNat b.toNat c.la.zs 0) (R : List (List Ent)) (hR : R = rowsN bs is c.la.zs.length (8 * is.length)) :
    ((rumourP c a b R).2 = 0 ∧ (rumourP c a b R).1 = bs) ↔ (bs.length = 34 * is.length ∧ goodAll bs is.length = true) := by
  have hnd : is.Nodup := by rw [his]; exact bothGo_nodup _ _ _ _
  have hlt : ∀ i ∈ is, i < c.la.zs.length := fun i hi => by rw [his] at hi; have := bothGo_mem _ _ _ _ i hi; omega
  obtain ⟨hg1, hg2⟩ := rowsN_get bs is c.la.zs.length is.length rfl hnd hlt (8 * is.length) (Nat.le_refl _)
  rw [← hR] at hg1 hg2
  have hlen : R.length = c.la.zs.length := by rw [hR]; exact rowsN_len _ _ _ _
  have hrow : ∀ p i : Nat, is[p]? = some i → R.getD i [] = decPart bs p 8 := fun p i hp => by
    have hpl := (List.getElem?_eq_some_iff.1 hp).1
    rw [hg1 p i hp, show min 8 (8 * is.length - 8 * p) = 8 by omega]
  have hRP : rumourP c a b R = if R.any (fun l => !mayP l) = true then ([], 4) else if is.any (fun i => badRow (R.getD i [])) = true then ([], 12) else (bytesOf (allBits (rumFs R is)) (34 * is.length), 0) := by
    unfold rumourP
    rw [if_neg (by rw [hcf]; simp), if_neg (by rw [hab.1, hab.2]; simp), if_neg (by rw [hlen]; simp), ← his]
  have hmay : ∀ p, (∀ x, x < 8 → isN (slN bs (8 * p + x)) = true → oneP (decE x (slN bs (8 * p + x))) = true) → mayP (decPart bs p 8) = true := fun p h => by
    unfold mayP
    have hl := decPart_len bs p 8
    rw [entsGo_mk _ none (fun e he => by obtain ⟨x, h1, h2, h3⟩ := decPart_key bs p 8 e he; rw [h2]; exact h x h1 h3) (decPart_srt bs p 8) (fun q hq => by cases hq)]
    simp
    omega
  have hslot : ∀ (p i x : Nat), is[p]? = some i → x < 8 → slotV (R.getD i []) x = if isN (slN bs (8 * p + x)) = true then slN bs (8 * p + x) else 0 := fun p i x hp hx => by
    rw [hrow p i hp]
    unfold slotV
    rw [decPart_find]
    by_cases h : isN (slN bs (8 * p + x)) = true
    · rw [if_pos ⟨hx, h⟩, if_pos h]
      exact slotN_dec x _ (slN_lt bs _) h
    · rw [if_neg (fun e => h e.2), if_neg h]
  constructor
  · rintro ⟨h2, h1⟩
    rw [hRP] at h1 h2
    split at h2
    · simp at h2
    rename_i hm
    rw [if_neg hm] at h1
    split at h2
    · simp at h2
    rename_i hb
    rw [if_neg hb] at h1
    dsimp only at h1
    have hl : bs.length = 34 * is.length := by rw [← h1]; simp [bytesOf]
    refine ⟨hl, ?_⟩
    unfold goodAll
    rw [List.all_eq_true]
    intro k hk
    have hk8 : k < 8 * is.length := List.mem_range.1 hk
    obtain ⟨i, hi⟩ : ∃ i, is[k / 8]? = some i := ⟨_, List.getElem?_eq_getElem (by omega)⟩
    have e8 : 8 * (k / 8) + k % 8 = k := by omega
    have hx8 : k % 8 < 8 := Nat.mod_lt _ (by omega)
    have hsv := hslot (k / 8) i (k % 8) hi hx8
    rw [e8] at hsv
    have hfk := rumFs_get R is (k / 8) i (k % 8) hi hx8
    rw [e8] at hfk
    have hvlt : slotV (R.getD i []) ((k % 8 : Nat) : Int) < 17179869184 := by
      rw [hsv]; split
      · exact slN_lt bs k
      · omega
    have hsl : slN bs k = slotV (R.getD i []) ((k % 8 : Nat) : Int) := by
      have h34 := fv_bits (slotV (R.getD i []) ((k % 8 : Nat) : Int)) hvlt 34 (Nat.le_refl _)
      rw [show 34 - 34 = 0 from rfl, Nat.pow_zero, Nat.div_one] at h34
      rw [← h34]
      unfold slN
      have hcg : ∀ j, j < 34 → bitB bs (34 * k + j) = slotV (R.getD i []) ((k % 8 : Nat) : Int) / 2 ^ (33 - j) % 2 := fun j hj => by
        have hb1 := bitB_packed (allBits (rumFs R is)) (allBits_le _) (34 * is.length) (34 * k + j) (by omega)
        rw [h1] at hb1
        rw [hb1, getD_bits (rumFs R is) (rumFs_34 R is) k j _ hfk hj]
        simp
      have : ∀ n, n ≤ 34 → fv (bitB bs) (34 * k) n = fv (fun j => slotV (R.getD i []) ((k % 8 : Nat) : Int) / 2 ^ (33 - j) % 2) 0 n := by
        intro n
        induction n with
        | zero => intro _; rfl
        | succ n ih =>
          intro hn
          rw [fv, fv, ih (by omega), hcg n (by omega), Nat.zero_add]
      exact this 34 (Nat.le_refl _)
    unfold slotGood
    rw [Bool.or_eq_true]
    by_cases h : isN (slN bs k) = true
    · right
      rw [h, Bool.true_and]
      have hmi : R.getD i [] ∈ R := by
        rw [List.getD_eq_getElem?_getD, List.getElem?_eq_getElem (by rw [hlen]; exact hlt i (List.mem_of_getElem? hi))]
        exact List.getElem_mem _
      have hmy : mayP (R.getD i []) = true := by
        cases hc : mayP (R.getD i []) with
        | true => rfl
        | false => exact absurd (List.any_eq_true.2 ⟨_, hmi, by rw [hc]; rfl⟩) hm
      have hin : decE (k % 8) (slN bs k) ∈ R.getD i [] := by
        rw [hrow _ _ hi]
        have := decPart_find bs (k / 8) 8 (k % 8)
        rw [e8, if_pos ⟨hx8, h⟩] at this
        exact List.mem_of_find?_eq_some this
      unfold mayP at hmy
      simp only [Bool.and_eq_true] at hmy
      exact (may_srt _ none hmy.1).1 _ hin
    · left
      rw [if_neg h] at hsv
      rw [decide_eq_true_eq, hsl, hsv]
  · rintro ⟨hl, hga⟩
    have hgk : ∀ k, k < 8 * is.length → slotGood (k % 8) (slN bs k) = true := fun k hk => List.all_eq_true.1 hga k (List.mem_range.2 hk)
    have hone : ∀ p x : Nat, p < is.length → x < 8 → isN (slN bs (8 * p + x)) = true → oneP (decE x (slN bs (8 * p + x))) = true := fun p x hp hx h => by
      have := hgk (8 * p + x) (by omega)
      rw [show (8 * p + x) % 8 = x by omega] at this
      unfold slotGood at this
      rw [Bool.or_eq_true, h, Bool.true_and] at this
      rcases this with h1 | h1
      · simp only [decide_eq_true_eq] at h1
        rw [h1] at h
        simp [isN] at h
      · exact h1
    have hm : R.any (fun l => !mayP l) = false := by
      rw [List.any_eq_false]
      intro l hl
      obtain ⟨i, hi⟩ := List.mem_iff_getElem?.1 hl
      have hgi : R.getD i [] = l := by rw [List.getD_eq_getElem?_getD, hi]; rfl
      by_cases hin : i ∈ is
      · obtain ⟨p, hp⟩ := List.mem_iff_getElem?.1 hin
        rw [← hgi, hrow p i hp, hmay p (fun x hx h => hone p x (List.getElem?_eq_some_iff.1 hp).1 hx h)]
        simp
      · rw [← hgi, hg2 i hin]
        decide
    have hb : is.any (fun i => badRow (R.getD i [])) = false := by
      rw [List.any_eq_false]
      intro i hi
      obtain ⟨p, hp⟩ := List.mem_iff_getElem?.1 hi
      rw [hrow p i hp]
      unfold badRow
      rw [Bool.not_eq_true, List.any_eq_false]
      intro e he
      obtain ⟨x, h1, h2, _⟩ := decPart_key bs p 8 e he
      rw [h2]
      unfold decE
      simp
      omega
    rw [hRP, hm, if_neg (by simp), hb, if_neg (by simp)]
    refine ⟨rfl, ?_⟩
    dsimp only
    have hfs : rumFs R is = fsB bs (List.replicate (8 * is.length) 34) 0 := by
      apply List.ext_getElem?
      intro k
      by_cases hk : k < 8 * is.length
      · obtain ⟨i, hi⟩ : ∃ i, is[k / 8]? = some i := ⟨_, List.getElem?_eq_getElem (by omega)⟩
        have e8 : 8 * (k / 8) + k % 8 = k := by omega
        have hx8 : k % 8 < 8 := Nat.mod_lt _ (by omega)
        have hfk := rumFs_get R is (k / 8) i (k % 8) hi hx8
        have hsv := hslot (k / 8) i (k % 8) hi hx8
        rw [e8] at hfk hsv
        have htw : totalW ((List.replicate (8 * is.length) (34 : Int)).take k) = 34 * k := by
          unfold totalW
          rw [List.take_replicate, List.map_replicate, List.sum_replicate_nat, Nat.min_eq_left (by omega)]
          show k * 34 = 34 * k
          omega
        rw [hfk, fsB_get bs _ 0 k 34 (by rw [List.getElem?_replicate, if_pos hk]), htw, Nat.zero_add, hsv]
        congr 2
        have := hgk k hk
        unfold slotGood at this
        rw [Bool.or_eq_true] at this
        by_cases h : isN (slN bs k) = true
        · rw [if_pos h]; rfl
        · rw [if_neg h]
          rcases this with h1 | h1
          · simp only [decide_eq_true_eq] at h1
            unfold slN at h1
            show ((0 : Nat) : Int) = ((fv (bitB bs) (34 * k) 34 : Nat) : Int)
            rw [h1]
          · rw [Bool.and_eq_true] at h1
            exact absurd h1.1 h
      · rw [List.getElem?_eq_none (by rw [rumFs_len]; omega), List.getElem?_eq_none (by rw [fsB_len, List.length_replicate]; omega)]
    have htot : totalW (List.replicate (8 * is.length) (34 : Int)) = 8 * bs.length := by
      unfold totalW
      rw [List.map_replicate, List.sum_replicate_nat, hl]
      show 8 * is.length * 34 = 8 * (34 * is.length)
      omega
    have := (repack_iff bs (List.replicate (8 * is.length) 34) hbs (by rw [htot]; exact Nat.le_refl _)).2 (by
      unfold tailOk
      rw [htot]
      simp
      intro k h1 h2
      omega)
    rw [hfs, ← hl]
    exact this
end Go.Proofs.Ytbkciniikahjhaa
