/- Contracts and plain facts, set together by program out of smaller texts. Conditions: none beyond what each theorem states. -/
import Derived.Test.YtbolcebmbpepdaaDoorM33
import Derived.Test.YtbolcebmbpepdaaDoorM10
import Derived.Test.YtbolcebmbpepdaaDoorM12
namespace Go.Proofs.YtbolcebmbpepdaaDoor
set_option linter.unusedVariables false
section
open Go.RowKit
theorem fv_num (v n : Nat) (hv : v < 2 ^ n) (f : Nat → Nat) (s : Nat) (hf : ∀ j, j < n → f (s + j) = v / 2 ^ (n - 1 - j) % 2) : fv f s n = v := by
  have key : ∀ m, m ≤ n → fv f s m = v / 2 ^ (n - m) := by
    intro m
    induction m with
    | zero => intro _; rw [fv, Nat.sub_zero]; exact (Nat.div_eq_of_lt hv).symm
    | succ m ih =>
      intro h
      rw [fv, ih (by omega), hf m (by omega), show n - 1 - m = n - (m + 1) by omega, show n - m = (n - (m + 1)) + 1 by omega, Nat.pow_succ, ← Nat.div_div_eq_div_mul]
      omega
  have := key n (Nat.le_refl _)
  rwa [Nat.sub_self, Nat.pow_zero, Nat.div_one] at this
theorem getD_bitsW (W : Nat) (fs : List (Int × Int)) (h : ∀ f ∈ fs, f.1 = (W : Int)) (k j : Nat) (f : Int × Int) (hk : fs[k]? = some f) (hj : j < W) : (allBits fs).getD (W * k + j) 0 = f.2.toNat / 2 ^ (W - 1 - j) % 2 := by
  have e : allBits fs = (fs.map fieldBits).flatten := by unfold allBits; rw [List.flatMap_def]
  rw [e, List.getD_eq_getElem?_getD, Nat.mul_comm W k, flatten_get W (fs.map fieldBits) (fun cs hcs => by
    obtain ⟨g, hg, rfl⟩ := List.mem_map.1 hcs
    rw [fieldBits_len, h g hg]; rfl) k j hj, List.getElem?_map, hk]
  have hf := h f (List.mem_of_getElem? hk)
  have := fieldBits_get f j (by rw [hf]; exact hj)
  simp only [Option.map_some, Option.bind_some]
  rw [this, hf]
  rfl
/-- a field of a record of fields of one width -/
theorem fv_packed (W : Nat) (fs : List (Int × Int)) (h : ∀ f ∈ fs, f.1 = (W : Int)) (n k : Nat) (f : Int × Int) (hk : fs[k]? = some f) (hv : f.2.toNat < 2 ^ W) (hn : W * fs.length ≤ 8 * n) : fv (bitB (bytesOf (allBits fs) n)) (W * k) W = f.2.toNat := by
  have hkl := (List.getElem?_eq_some_iff.1 hk).1
  refine fv_num _ _ hv _ _ fun j hj => ?_
  have : W * k + W ≤ W * fs.length := by
    have := Nat.mul_le_mul_left W (show k + 1 ≤ fs.length by omega)
    rw [Nat.mul_add, Nat.mul_one] at this
    exact this
  rw [bitB_packed _ (allBits_le _) n _ (by omega)]
  exact getD_bitsW W fs h k j f hk hj
theorem sorted_ext : ∀ (a b : List Ent), SortedE a → SortedE b → (∀ e, e ∈ a ↔ e ∈ b) → a = b
  | [], [], _, _, _ => rfl
  | [], y :: b, _, _, h => absurd ((h y).2 (by simp)) (by simp)
  | x :: a, [], _, _, h => absurd ((h x).1 (by simp)) (by simp)
  | x :: a, y :: b, ha, hb, h => by
    have h1 := List.pairwise_cons.1 ha
    have h2 := List.pairwise_cons.1 hb
    have hxy : x = y := by
      rcases List.mem_cons.1 ((h x).1 (by simp)) with e | e
      · exact e
      · rcases List.mem_cons.1 ((h y).2 (by simp)) with e2 | e2
        · exact e2.symm
        · have := h1.1 y e2
          have := h2.1 x e
          omega
    subst hxy
    rw [sorted_ext a b h1.2 h2.2 fun e => ⟨fun he => ?_, fun he => ?_⟩]
    · rcases List.mem_cons.1 ((h e).1 (by simp [he])) with e2 | e2
      · have := h1.1 e he
        rw [e2] at this
        omega
      · exact e2
    · rcases List.mem_cons.1 ((h e).2 (by simp [he])) with e2 | e2
      · have := h2.1 e he
        rw [e2] at this
        omega
      · exact e2
theorem keyE_mem : ∀ {l : List Ent}, SortedE l → ∀ {e : Ent}, e ∈ l → keyE l e.key = some e
  | [], _, e, he => by cases he
  | x :: l, h, e, he => by
    have h1 := List.pairwise_cons.1 h
    unfold keyE
    rcases List.mem_cons.1 he with rfl | he
    · simp
    · have := h1.1 e he
      rw [List.find?_cons_of_neg (by simp; omega)]
      exact keyE_mem h1.2 he
theorem dec_slotN {e : Ent} {k : Nat} (h : SlotOk e) (hk : e.key = k) : decE k (slotN e) = e ∧ isN (slotN e) = true := by
  obtain ⟨⟨v0, v1⟩, ⟨t0, t1⟩, w0, w1⟩ := h
  obtain ⟨key, value, time, who, gone⟩ := e
  dsimp only at hk v0 v1 t0 t1 w0 w1
  obtain ⟨v, rfl⟩ := Int.eq_ofNat_of_zero_le v0
  obtain ⟨t, rfl⟩ := Int.eq_ofNat_of_zero_le t0
  obtain ⟨q, rfl⟩ := Int.eq_ofNat_of_zero_le w0
  subst hk
  unfold decE isN slotN goneN
  dsimp only
  simp only [Int.toNat_natCast]
  cases gone
  · constructor
    · congr 1
      · congr 1; simp; omega
      · congr 1; simp; omega
      · congr 1; simp; omega
      · simp; omega
    · simp; omega
  · constructor
    · congr 1
      · congr 1; simp; omega
      · congr 1; simp; omega
      · congr 1; simp; omega
      · simp; omega
    · simp; omega
/-- entries aS they are in a world -/
def goodE (e : Ent) : Prop := e.key < 8 ∧ e.value ≤ 255
theorem slotOk_of {l : List Ent} (hm : mayP l = true) (hg : ∀ e ∈ l, goodE e) : ∀ e ∈ l, SlotOk e := fun e he => by
  obtain ⟨_, ⟨h1, h2⟩, ⟨h3, h4⟩, h5⟩ := oneP_facts ((mayP_facts hm).2.2.2 e he)
  exact ⟨⟨h1, (hg e he).2⟩, ⟨h3, h4⟩, h5⟩
theorem getD_mem {R : List (List Ent)} {P : List Ent → Prop} (h : ∀ l ∈ R, P l) (h0 : P []) (i : Nat) : P (R.getD i []) := by
  rw [List.getD_eq_getElem?_getD]
  cases hk : R[i]? with
  | none => exact h0
  | some x => exact h x (List.mem_of_getElem? hk)
def heardR (c : Cfg) (a b : Int) (R : List (List Ent)) : List (List Ent) := (List.range c.la.zs.length).map fun i => if i ∈ bothGo a.toNat b.toNat c.la.zs 0 then R.getD i [] else []
theorem rumour_tells {c : Cfg} {a b : Int} {R : List (List Ent)} (hcf : configP c = true) (ha : 0 ≤ a ∧ a < c.br) (hb : 0 ≤ b ∧ b < c.br) (hlen : R.length = c.la.zs.length) (hmay : ∀ l ∈ R, mayP l = true) (hgood : ∀ l ∈ R, ∀ e ∈ l, goodE e) :
    rumourP c a b R = (bytesOf (allBits (rumFs R (bothGo a.toNat b.toNat c.la.zs 0))) (34 * (bothGo a.toNat b.toNat c.la.zs 0).length), 0) ∧ heardP c a b (rumourP c a b R).1 = (heardR c a b R, 0) := by
  have hab : brOk c a = true ∧ brOk c b = true := by unfold brOk; simp; omega
  unfold heardR
  have hnd := bothGo_nodup a.toNat b.toNat c.la.zs 0
  have hlt : ∀ i ∈ bothGo a.toNat b.toNat c.la.zs 0, i < c.la.zs.length := fun i hi => by have := bothGo_mem _ _ _ _ i hi; omega
  have hP1 : rumourP c a b R = (bytesOf (allBits (rumFs R (bothGo a.toNat b.toNat c.la.zs 0))) (34 * (bothGo a.toNat b.toNat c.la.zs 0).length), 0) := by
    unfold rumourP
    rw [if_neg (by rw [hcf]; simp), if_neg (by rw [hab.1, hab.2]; simp), if_neg (by rw [hlen]; simp), if_neg, if_neg]
    · rw [List.any_eq_true]
      rintro ⟨i, _, h⟩
      unfold badRow at h
      obtain ⟨e, he, h2⟩ := List.any_eq_true.1 h
      have := getD_mem (P := fun l => ∀ e ∈ l, goodE e) hgood (fun e he => by cases he) i e he
      unfold goodE at this
      simp at h2
      omega
    · rw [List.any_eq_true]
      rintro ⟨l, hl, h⟩
      rw [hmay l hl] at h
      cases h
  refine ⟨hP1, ?_⟩
  rw [hP1]
  dsimp only
  generalize hbs : bytesOf (allBits (rumFs R (bothGo a.toNat b.toNat c.la.zs 0))) (34 * (bothGo a.toNat b.toNat c.la.zs 0).length) = bs
  have hP : heardP c a b bs = if bs.length ≠ 34 * (bothGo a.toNat b.toNat c.la.zs 0).length then ([], 4) else if goodAll bs (bothGo a.toNat b.toNat c.la.zs 0).length = true then (rowsN bs (bothGo a.toNat b.toNat c.la.zs 0) c.la.zs.length (8 * (bothGo a.toNat b.toNat c.la.zs 0).length), 0) else ([], 4) := by
    unfold heardP
    rw [if_neg (by rw [hcf]; simp), if_neg (by rw [hab.1, hab.2]; simp)]
  rw [hP]
  generalize bothGo a.toNat b.toNat c.la.zs 0 = is at hnd hlt hbs
  have hlb : bs.length = 34 * is.length := by rw [← hbs]; simp [bytesOf]
  rw [if_neg (by rw [hlb]; simp)]
  have hRm : ∀ i, mayP (R.getD i []) = true := getD_mem (P := fun l => mayP l = true) hmay rfl
  have hRg : ∀ i, ∀ e ∈ R.getD i [], goodE e := getD_mem (P := fun l => ∀ e ∈ l, goodE e) hgood (fun e he => by cases he)
  have hRs : ∀ i, ∀ e ∈ R.getD i [], SlotOk e := fun i => slotOk_of (hRm i) (hRg i)
  have hsl : ∀ p i x : Nat, is[p]? = some i → x < 8 → slN bs (8 * p + x) = slotV (R.getD i []) x := fun p i x hp hx => by
    have hpl := (List.getElem?_eq_some_iff.1 hp).1
    have h34 : ∀ f ∈ rumFs R is, f.1 = ((34 : Nat) : Int) := fun f hf => rumFs_34 R is f hf
    have := fv_packed 34 (rumFs R is) h34 (34 * is.length) (8 * p + x) _ (rumFs_get R is p i x hp hx) (by dsimp only; rw [Int.toNat_natCast]; exact slotV_lt (hRs i) x) (by rw [rumFs_len]; omega)
    rw [hbs, Int.toNat_natCast] at this
    exact this
  have hdec : ∀ p i x : Nat, is[p]? = some i → x < 8 → (isN (slN bs (8 * p + x)) = false ∧ slN bs (8 * p + x) = 0 ∧ keyE (R.getD i []) x = none) ∨ (isN (slN bs (8 * p + x)) = true ∧ ∃ e, keyE (R.getD i []) x = some e ∧ decE x (slN bs (8 * p + x)) = e) := fun p i x hp hx => by
    rw [hsl p i x hp hx]
    unfold slotV
    cases hk : keyE (R.getD i []) x with
    | none => exact .inl ⟨by decide, rfl, rfl⟩
    | some e =>
      have hm := List.mem_of_find?_eq_some hk
      have hkk : e.key = x := by have := List.find?_some hk; simpa using this
      obtain ⟨h1, h2⟩ := dec_slotN (hRs i e hm) hkk
      exact .inr ⟨h2, e, rfl, h1⟩
  have hgoodA : goodAll bs is.length = true := by
    unfold goodAll
    rw [List.all_eq_true]
    intro k hk
    have hk8 : k < 8 * is.length := List.mem_range.1 hk
    obtain ⟨i, hi⟩ : ∃ i, is[k / 8]? = some i := ⟨_, List.getElem?_eq_getElem (by omega)⟩
    have e8 : 8 * (k / 8) + k % 8 = k := by omega
    have := hdec (k / 8) i (k % 8) hi (Nat.mod_lt _ (by omega))
    rw [e8] at this
    unfold slotGood
    rw [Bool.or_eq_true]
    rcases this with ⟨_, h2, _⟩ | ⟨h1, e, h2, h3⟩
    · left; rw [h2]; rfl
    · right
      rw [h1, h3, Bool.true_and]
      exact (mayP_facts (hRm i)).2.2.2 e (List.mem_of_find?_eq_some h2)
  rw [if_pos hgoodA]
  obtain ⟨hg1, hg2⟩ := rowsN_get bs is c.la.zs.length is.length rfl hnd hlt (8 * is.length) (Nat.le_refl _)
  congr 1
  refine List.ext_getElem (by rw [rowsN_len]; simp) fun i h1 h2 => ?_
  have e1 : (rowsN bs is c.la.zs.length (8 * is.length))[i] = (rowsN bs is c.la.zs.length (8 * is.length)).getD i [] := by rw [List.getD_eq_getElem?_getD, List.getElem?_eq_getElem h1]; rfl
  rw [e1, List.getElem_map, List.getElem_range]
  by_cases hi : i ∈ is
  · rw [if_pos hi]
    obtain ⟨p, hp⟩ := List.mem_iff_getElem?.1 hi
    have hpl := (List.getElem?_eq_some_iff.1 hp).1
    rw [hg1 p i hp, show min 8 (8 * is.length - 8 * p) = 8 by omega]
    obtain ⟨hs, hko, _, _⟩ := mayP_facts (hRm i)
    refine sorted_ext _ _ (decPart_srt bs p 8) hs fun e => ⟨fun he => ?_, fun he => ?_⟩
    · obtain ⟨x, hx, h3, h4⟩ := decPart_key bs p 8 e he
      rcases hdec p i x hp hx with ⟨h5, _⟩ | ⟨_, e2, h6, h7⟩
      · rw [h5] at h4; cases h4
      · rw [h3, h7]
        exact List.mem_of_find?_eq_some h6
    · have hk1 := (hRg i e he).1
      have hk0 := (hko e he).1
      have hkm := keyE_mem hs he
      have hx : e.key.toNat < 8 := by omega
      rw [show e.key = ((e.key.toNat : Nat) : Int) by omega] at hkm
      rcases hdec p i e.key.toNat hp hx with ⟨_, _, h6⟩ | ⟨h5, e2, h6, h7⟩
      · rw [hkm] at h6; cases h6
      · rw [hkm] at h6
        cases h6
        have := decPart_find bs p 8 e.key.toNat
        rw [if_pos ⟨hx, h5⟩, h7] at this
        exact List.mem_of_find?_eq_some this
  · rw [if_neg hi, hg2 i hi]
end
section
open Go.RowKit
/-- the shelves ahead of item b of branch a are a tick older -/
def WS.tkTo (S : WS) (m a b : Nat) : WS := { S with sh := fun i k => if i < a ∧ k < m ∨ i = a ∧ k < b then ((S.sh i k).does tickO).1 else S.sh i k }
theorem tkTo_zero (S : WS) (m : Nat) : S.tkTo m 0 0 = S := by
  unfold WS.tkTo
  simp
theorem tkTo_item (S : WS) (m a b : Nat) : S.tkTo m a (b + 1) = { S.tkTo m a b with sh := upd1 (S.tkTo m a b).sh a (upd1 ((S.tkTo m a b).sh a) b (((S.tkTo m a b).sh a b).does tickO).1) } := by
  have h0 : (S.tkTo m a b).sh a b = S.sh a b := if_neg (by omega)
  have h : (S.tkTo m a (b + 1)).sh = upd1 (S.tkTo m a b).sh a (upd1 ((S.tkTo m a b).sh a) b (((S.tkTo m a b).sh a b).does tickO).1) := by
    funext i k
    rw [h0, upd1_if]
    show (if i < a ∧ k < m ∨ i = a ∧ k < b + 1 then _ else _) = _
    by_cases hi : i = a
    · subst hi
      rw [if_pos rfl, upd1_if]
      by_cases hk : k = b
      · subst hk
        rw [if_pos (by omega), if_pos rfl]
      · rw [if_neg hk]
        show _ = (if i < i ∧ k < m ∨ i = i ∧ k < b then _ else _)
        by_cases hb : k < b
        · rw [if_pos (by omega), if_pos (by omega)]
        · rw [if_neg (by omega), if_neg (by omega)]
    · rw [if_neg hi]
      show _ = (if i < a ∧ k < m ∨ i = a ∧ k < b then _ else _)
      by_cases hb : i < a ∧ k < m
      · rw [if_pos (by omega), if_pos (by omega)]
      · rw [if_neg (by omega), if_neg (by omega)]
  show WS.mk _ _ _ _ _ _ _ _ = _
  rw [← h]
  rfl
theorem tkTo_row (S : WS) (m a : Nat) : S.tkTo m a m = S.tkTo m (a + 1) 0 := by
  unfold WS.tkTo
  congr 1
  funext i k
  by_cases h : i < a ∧ k < m ∨ i = a ∧ k < m
  · rw [if_pos h, if_pos (by omega)]
  · rw [if_neg h, if_neg (by omega)]
theorem rumsTo_succ (c : Cfg) (S : WS) (i k : Nat) : rumsTo c S i (k + 1) = if k = i then rumsTo c S i k else rumsTo c S i k ++ [⟨i, k, (rumourP c i k (S.st i)).1⟩] := by
  unfold rumsTo
  rw [List.range_succ, List.filter_append]
  by_cases h : k = i
  · subst h
    rw [if_pos rfl]
    simp
  · rw [if_neg h]
    simp [h]
theorem sendsTo_succ (c : Cfg) (S : WS) (k : Nat) : sendsTo c S (k + 1) = sendsTo c S k ++ sendsOf c S k := by
  unfold sendsTo
  rw [List.range_succ, List.flatMap_append]
  simp
theorem grantsTo_succ (c : Cfg) (S : WS) (k : Nat) : grantsTo c S (k + 1) = grantsTo c S k ++ [⟨c.n, k, (asksP c (givenTo c S c.m k)).1⟩] := by
  unfold grantsTo
  rw [List.range_succ, List.map_append]
  rfl
theorem givenTo_succ (c : Cfg) (S : WS) (k who : Nat) : givenTo c S (k + 1) who = givenTo c S k who ++ [(grantOf c S k).getD who 0] := by
  unfold givenTo
  rw [List.range_succ, List.map_append]
  rfl
theorem reportsTo_succ (c : Cfg) (S : WS) (k : Nat) : reportsTo c S (k + 1) = if 0 ≤ reportOf c S k then reportsTo c S k ++ [reportOf c S k] else reportsTo c S k := by
  unfold reportsTo
  rw [List.range_succ, List.filterMap_append]
  by_cases h : 0 ≤ reportOf c S k
  · rw [if_pos h]; simp [h]
  · rw [if_neg h]; simp [h]
theorem posts_posts (S : WS) (a b : List PoD) : (S.posts a).posts b = S.posts (a ++ b) := by
  unfold WS.posts
  dsimp only
  rw [List.append_assoc]
theorem posts_nil (S : WS) : S.posts [] = S := by
  unfold WS.posts
  rw [List.append_nil]
theorem envs_snoc (a : List PoD) (p : PoD) (k : Nat) : envs k (a ++ [p]) = envs k a ++ [⟨((k + a.length : Nat) : Int), p.fr, p.to_, p.data.length⟩] := by
  rw [envs_append]
  rfl
end
section
open Go.RowKit
/-- two lists, element by element -/
inductive All2 {α β : Type} (P : α → β → Prop) : List α → List β → Prop where
  | nil : All2 P [] []
  | cons {a : α} {b : β} {l : List α} {m : List β} : P a b → All2 P l m → All2 P (a :: l) (b :: m)
namespace All2
variable {α β γ : Type} {P : α → β → Prop}
theorem len : ∀ {l : List α} {m : List β}, All2 P l m → l.length = m.length
  | _, _, .nil => rfl
  | _, _, .cons _ h => by rw [List.length_cons, List.length_cons, h.len]
theorem append : ∀ {l : List α} {m : List β} {l2 : List α} {m2 : List β}, All2 P l m → All2 P l2 m2 → All2 P (l ++ l2) (m ++ m2)
  | _, _, _, _, .nil, h => h
  | _, _, _, _, .cons a h, k => .cons a (h.append k)
theorem map : ∀ (l : List γ) (f : γ → α) (g : γ → β), (∀ x ∈ l, P (f x) (g x)) → All2 P (l.map f) (l.map g)
  | [], _, _, _ => .nil
  | x :: l, f, g, h => .cons (h x (by simp)) (map l f g fun y hy => h y (by simp [hy]))
theorem flatMap : ∀ (l : List γ) (f : γ → List α) (g : γ → List β), (∀ x ∈ l, All2 P (f x) (g x)) → All2 P (l.flatMap f) (l.flatMap g)
  | [], _, _, _ => .nil
  | x :: l, f, g, h => by
    rw [List.flatMap_cons, List.flatMap_cons]
    exact (h x (by simp)).append (flatMap l f g fun y hy => h y (by simp [hy]))
theorem mono {Q : α → β → Prop} (hq : ∀ a b, P a b → Q a b) : ∀ {l : List α} {m : List β}, All2 P l m → All2 Q l m
  | _, _, .nil => .nil
  | _, _, .cons a h => .cons (hq _ _ a) (h.mono hq)
end All2
/-- rows aS they are in a world -/
def GoodR (c : Cfg) (R : List (List Ent)) : Prop := R.length = c.ln ∧ (∀ l ∈ R, mayP l = true) ∧ ∀ l ∈ R, ∀ e ∈ l, goodE e
theorem mem_bothGo (a b : Nat) : ∀ (ls : List Int) (i k : Nat), k ∈ bothGo a b ls i ↔ i ≤ k ∧ k < i + ls.length ∧ (ls.getD (k - i) 0).toNat.testBit a = true ∧ (ls.getD (k - i) 0).toNat.testBit b = true
  | [], i, k => by
    simp only [bothGo, List.not_mem_nil, List.length_nil, false_iff]
    omega
  | z :: ls, i, k => by
    have ih := mem_bothGo a b ls (i + 1) k
    unfold bothGo
    have key : (k ∈ bothGo a b ls (i + 1)) ↔ (i < k ∧ k < i + (z :: ls).length ∧ ((z :: ls).getD (k - i) 0).toNat.testBit a = true ∧ ((z :: ls).getD (k - i) 0).toNat.testBit b = true) := by
      rw [ih, List.length_cons]
      constructor
      · rintro ⟨h1, h2, h3⟩
        have e : k - i = (k - (i + 1)) + 1 := by omega
        rw [e, List.getD_cons_succ]
        exact ⟨by omega, by omega, h3⟩
      · rintro ⟨h1, h2, h3⟩
        have e : k - i = (k - (i + 1)) + 1 := by omega
        rw [e, List.getD_cons_succ] at h3
        exact ⟨by omega, by omega, h3⟩
    by_cases hz : (z.toNat.testBit a && z.toNat.testBit b) = true
    · rw [if_pos hz, List.mem_cons, key]
      rw [Bool.and_eq_true] at hz
      constructor
      · rintro (rfl | ⟨h1, h2⟩)
        · rw [Nat.sub_self, List.getD_cons_zero]
          exact ⟨Nat.le_refl _, by simp, hz⟩
        · exact ⟨by omega, h2⟩
      · rintro ⟨h1, h2⟩
        by_cases e : k = i
        · exact .inl e
        · exact .inr ⟨by omega, h2⟩
    · rw [if_neg hz, key]
      constructor
      · rintro ⟨h1, h2⟩
        exact ⟨by omega, h2⟩
      · rintro ⟨h1, h2⟩
        refine ⟨?_, h2⟩
        by_cases e : k = i
        · exfalso
          subst e
          rw [Nat.sub_self, List.getD_cons_zero] at h2
          exact hz (by rw [Bool.and_eq_true]; exact h2.2)
        · omega
theorem learnsL_get (R : List (List Ent)) : ∀ (k : Nat) (q : List (List Ent)) (l : Nat), (learnsL R k q).length = q.length ∧ (learnsL R k q).getD l [] = if l < k ∧ l < q.length then (mergeP (q.getD l []) (R.getD l [])).1 else q.getD l []
  | 0, q, l => ⟨rfl, by rw [if_neg (by omega)]; rfl⟩
  | k + 1, q, l => by
    obtain ⟨h1, h2⟩ := learnsL_get R k q l
    obtain ⟨_, h3⟩ := learnsL_get R k q k
    rw [if_neg (by omega)] at h3
    rw [learnsL]
    refine ⟨by rw [List.length_set, h1], ?_⟩
    rw [h3, List.getD_eq_getElem?_getD, List.getElem?_set, h1]
    by_cases hkl : k = l
    · subst hkl
      rw [if_pos rfl]
      by_cases hq : k < q.length
      · rw [if_pos hq, if_pos ⟨by omega, hq⟩]; rfl
      · rw [if_neg hq, if_neg (by omega), List.getD_eq_getElem?_getD, List.getElem?_eq_none (by omega)]
    · rw [if_neg hkl, ← List.getD_eq_getElem?_getD, h2]
      by_cases h : l < k ∧ l < q.length
      · rw [if_pos h, if_pos (by omega)]
      · rw [if_neg h, if_neg (by omega)]
/-- what gains turn: one branch's, by its own alone -/
theorem gainsW_at (i : Nat) (l : List Int) (S : WS) : ∀ k, (∀ j, j ≠ i → (gainsW i l k S).sh j = S.sh j ∧ (gainsW i l k S).gn j = S.gn j) ∧ ((gainsW i l k S).ask = S.ask ∧ (gainsW i l k S).st = S.st ∧ (gainsW i l k S).bk = S.bk ∧ (gainsW i l k S).lts = S.lts ∧ (gainsW i l k S).top = S.top ∧ (gainsW i l k S).lost = S.lost)
  | 0 => ⟨fun j _ => ⟨rfl, rfl⟩, rfl, rfl, rfl, rfl, rfl, rfl⟩
  | k + 1 => by
    obtain ⟨h1, h2, h3, h4, h5, h6, h7⟩ := gainsW_at i l S k
    rw [gainsW, gnAt]
    split
    · refine ⟨fun j hj => ?_, h2, h3, h4, h5, h6, h7⟩
      dsimp only
      rw [upd1_ne _ _ hj, upd1_ne _ _ hj]
      exact h1 j hj
    · exact ⟨h1, h2, h3, h4, h5, h6, h7⟩
end
section
open Go.RowKit
def timeOk (K : Int) (R : List (List Ent)) : Prop := ∀ l ∈ R, ∀ e ∈ l, e.time ≤ K
structure GoodW (c : Cfg) (K : Int) (S : WS) : Prop where
  st : ∀ i, GoodR c (S.st i) ∧ timeOk K (S.st i)
  lts : ∀ p ∈ S.lts, p.fr < c.n → p.to_ < c.n → ∃ R, GoodR c R ∧ timeOk K R ∧ p.data = (rumourP c p.fr p.to_ R).1
  top : ∀ f t, S.top f t ≤ S.lts.length
  lost : ∀ id, S.lost id = true → id < S.lts.length
theorem timeOk.mono {K L : Int} {R : List (List Ent)} (h : timeOk K R) (hL : K ≤ L) : timeOk L R := fun l hl e he => Int.le_trans (h l hl e he) hL
theorem GoodW.more {c : Cfg} {K L : Int} {S : WS} (h : GoodW c K S) (hL : K ≤ L) : GoodW c L S :=
  ⟨fun i => ⟨(h.st i).1, (h.st i).2.mono hL⟩, fun p hp h1 h2 => by
    obtain ⟨R, a, b, d⟩ := h.lts p hp h1 h2
    exact ⟨R, a, b.mono hL, d⟩, h.top, h.lost⟩
theorem merge_mem {a b : List Ent} {e : Ent} (h : e ∈ (mergeP a b).1) : e ∈ a ∨ e ∈ b := by
  unfold mergeP at h
  split at h
  · split at h
    · cases h
    · exact fold_mem b a e h
  · cases h
theorem GoodR.set_ {c : Cfg} {R : List (List Ent)} (h : GoodR c R) (k : Nat) {l : List Ent} (hm : mayP l = true) (hg : ∀ e ∈ l, goodE e) : GoodR c (R.set k l) := by
  refine ⟨by rw [List.length_set]; exact h.1, fun x hx => ?_, fun x hx => ?_⟩
  · rcases List.mem_or_eq_of_mem_set hx with hx | rfl
    · exact h.2.1 x hx
    · exact hm
  · rcases List.mem_or_eq_of_mem_set hx with hx | rfl
    · exact h.2.2 x hx
    · exact hg
theorem timeOk.set_ {K : Int} {R : List (List Ent)} (h : timeOk K R) (k : Nat) {l : List Ent} (hg : ∀ e ∈ l, e.time ≤ K) : timeOk K (R.set k l) := fun x hx => by
  rcases List.mem_or_eq_of_mem_set hx with hx | rfl
  · exact h x hx
  · exact hg
theorem row_good {c : Cfg} {K : Int} {R : List (List Ent)} (h : GoodR c R ∧ timeOk K R) (k : Nat) : ∀ e ∈ R.getD k [], goodE e ∧ e.time ≤ K :=
  getD_mem (P := fun l => ∀ e ∈ l, goodE e ∧ e.time ≤ K) (fun l hl e he => ⟨h.1.2.2 l hl e he, h.2 l hl e he⟩) (fun e he => by cases he) k
theorem learnsL_good {c : Cfg} {K : Int} {R : List (List Ent)} (hR : GoodR c R ∧ timeOk K R) : ∀ (k : Nat) (q : List (List Ent)), GoodR c q ∧ timeOk K q → GoodR c (learnsL R k q) ∧ timeOk K (learnsL R k q)
  | 0, q, h => h
  | k + 1, q, h => by
    have ih := learnsL_good hR k q h
    rw [learnsL]
    have hm : ∀ e ∈ (mergeP ((learnsL R k q).getD k []) (R.getD k [])).1, goodE e ∧ e.time ≤ K := fun e he => by
      rcases merge_mem he with he | he
      · exact row_good ih k e he
      · exact row_good hR k e he
    exact ⟨ih.1.set_ k (merge_may _ _) (fun e he => (hm e he).1), ih.2.set_ k (fun e he => (hm e he).2)⟩
theorem heardR_good {c : Cfg} {K : Int} {a b : Int} {R : List (List Ent)} (h : GoodR c R ∧ timeOk K R) : GoodR c (heardR c a b R) ∧ timeOk K (heardR c a b R) := by
  unfold heardR
  have hm : ∀ l ∈ (List.range c.la.zs.length).map (fun i => if i ∈ bothGo a.toNat b.toNat c.la.zs 0 then R.getD i [] else []), ∃ i, l = R.getD i [] ∨ l = [] := fun l hl => by
    obtain ⟨i, _, rfl⟩ := List.mem_map.1 hl
    refine ⟨i, ?_⟩
    split
    · exact .inl rfl
    · exact .inr rfl
  refine ⟨⟨by simp [Cfg.ln], fun l hl => ?_, fun l hl e he => ?_⟩, fun l hl e he => ?_⟩
  · obtain ⟨i, rfl | rfl⟩ := hm l hl
    · exact getD_mem (P := fun l => mayP l = true) h.1.2.1 rfl i
    · rfl
  · obtain ⟨i, rfl | rfl⟩ := hm l hl
    · exact (row_good h i e he).1
    · cases he
  · obtain ⟨i, rfl | rfl⟩ := hm l hl
    · exact (row_good h i e he).2
    · cases he
/-- what a letter between branches tells -/
theorem GoodW.tells {c : Cfg} {K : Int} {S : WS} (h : GoodW c K S) (hcf : configP c = true) {p : PoD} (hp : p ∈ S.lts) (hf : 0 ≤ p.fr ∧ p.fr < c.n) (ht : 0 ≤ p.to_ ∧ p.to_ < c.n) :
    ∃ R, (GoodR c R ∧ timeOk K R) ∧ p.data = (rumourP c p.fr p.to_ R).1 ∧ heardP c p.fr p.to_ p.data = (heardR c p.fr p.to_ R, 0) := by
  obtain ⟨⟨hn, _⟩, _⟩ := config_facts hcf
  obtain ⟨R, h1, h2, h3⟩ := h.lts p hp hf.2 ht.2
  refine ⟨R, ⟨h1, h2⟩, h3, ?_⟩
  rw [h3]
  exact (rumour_tells hcf (by omega) (by omega) h1.1 h1.2.1 h1.2.2).2
theorem gains_lts (i : Nat) (l : List Int) (k : Nat) (S : WS) : (gainsW i l k S).st = S.st ∧ (gainsW i l k S).lts = S.lts ∧ (gainsW i l k S).top = S.top ∧ (gainsW i l k S).lost = S.lost := by
  obtain ⟨_, _, h2, _, h4, h5, h6⟩ := gainsW_at i l S k
  exact ⟨h2, h4, h5, h6⟩
theorem come_good {c : Cfg} {K : Int} {S : WS} {N : Nat} (h : GoodW c K S) (hok : S.ok c N) (hcf : configP c = true) {p : PoD} (hp : p ∈ S.lts) : GoodW c K (comeW c S p) := by
  obtain ⟨⟨hn, _⟩, _⟩ := config_facts hcf
  obtain ⟨hf, ht, _, _⟩ := hok.lts p hp
  unfold comeW
  split
  · exact ⟨h.st, h.lts, h.top, h.lost⟩
  rename_i h1
  split
  · obtain ⟨e1, e2, e3, e4⟩ := gains_lts p.to_.toNat (askedP c p.data).1 (askedP c p.data).1.length S
    exact ⟨by rw [e1]; exact h.st, by rw [e2]; exact h.lts, by rw [e2, e3]; exact h.top, by rw [e2, e4]; exact h.lost⟩
  rename_i h2
  obtain ⟨R, hR, _, hh⟩ := h.tells hcf hp ⟨hf.1, by omega⟩ ⟨ht.1, by omega⟩
  rw [hh]
  refine ⟨fun i => ?_, h.lts, h.top, h.lost⟩
  show GoodR c (upd1 S.st p.to_.toNat _ i) ∧ timeOk K (upd1 S.st p.to_.toNat _ i)
  rw [upd1_if]
  split
  · exact learnsL_good (heardR_good hR) _ _ (h.st _)
  · exact h.st i
theorem tick_good {c : Cfg} {K : Int} {S : WS} (h : GoodW c K S) (hcf : configP c = true) : GoodW c K (tickW c S).2 := by
  have hl : (tickW c S).2.lts = S.lts ++ (sendsTo c S.aged c.n ++ grantsTo c S c.n) := rfl
  refine ⟨h.st, fun p hp h1 h2 => ?_, fun f t => ?_, fun id hid => ?_⟩
  · rw [hl] at hp
    rcases List.mem_append.1 hp with hp | hp
    · exact h.lts p hp h1 h2
    · rcases List.mem_append.1 hp with hp | hp
      · unfold sendsTo at hp
        obtain ⟨i, hi, hp⟩ := List.mem_flatMap.1 hp
        rcases List.mem_cons.1 hp with rfl | hp
        · exact absurd h2 (by dsimp only; omega)
        · unfold rumsTo at hp
          obtain ⟨j, _, rfl⟩ := List.mem_map.1 hp
          exact ⟨S.st i, (h.st i).1, (h.st i).2, rfl⟩
      · unfold grantsTo at hp
        obtain ⟨i, hi, rfl⟩ := List.mem_map.1 hp
        exact absurd h1 (by dsimp only; omega)
  · have := h.top f t
    rw [hl, List.length_append]
    show S.top f t ≤ _
    omega
  · have := h.lost id hid
    rw [hl, List.length_append]
    omega
theorem opened_good {c : Cfg} {K : Int} {S : WS} (h : GoodW c K S) (p : PoD) (id : Int) (hid : id + 1 ≤ S.lts.length) : GoodW c K (S.opened p id) := by
  refine ⟨h.st, h.lts, fun f t => ?_, h.lost⟩
  show (if f = p.fr ∧ t = p.to_ then id + 1 else S.top f t) ≤ _
  split
  · exact hid
  · exact h.top f t
theorem due0 {S : WS} {id : Int} (h : dueW S id ≠ 6) : ∃ p, S.lts[id.toNat]? = some p ∧ 0 ≤ id ∧ id < S.lts.length := by
  unfold dueW at h
  split at h
  · exact absurd rfl h
  rename_i h1
  cases hp : S.lts[id.toNat]? with
  | none => rw [hp] at h; exact absurd rfl h
  | some p =>
    have hlt := (List.getElem?_eq_some_iff.1 hp).1
    have h0 : 0 ≤ id := by
      refine Int.not_lt.1 fun e => h1 ?_
      unfold WS.to_ toP
      rw [if_pos e]
      decide
    exact ⟨p, rfl, h0, by omega⟩
theorem deliver_good {c : Cfg} {K : Int} {S : WS} {N : Nat} (h : GoodW c K S) (hok : S.ok c N) (hcf : configP c = true) (id : Int) : GoodW c K (deliverW c S id).2 := by
  unfold deliverW
  split
  · exact h
  rename_i h6
  obtain ⟨p, hp, h0, hlt⟩ := due0 h6
  rw [hp]
  dsimp only
  split
  · exact h
  · exact come_good (opened_good h p id (by omega)) (opened_ok hok p id) hcf (List.mem_of_getElem? hp)
theorem put_good {c : Cfg} {K : Int} {S : WS} (h : GoodW c K S) (hK : 0 ≤ K) (i l : Nat) (who key value : Int) (hk : 0 ≤ key ∧ key < 8) (hv : 0 ≤ value ∧ value ≤ 255) :
    GoodW c (K + 1) { S with st := upd1 S.st i ((S.st i).set l (putE ((S.st i).getD l []) who key value false)) } := by
  refine ⟨fun a => ?_, fun p hp h1 h2 => ?_, h.top, h.lost⟩
  · show GoodR c (upd1 S.st i _ a) ∧ timeOk (K + 1) (upd1 S.st i _ a)
    rw [upd1_if]
    split
    · have hti : timeL ((S.st i).getD l []) 0 ≤ K := by
        have key : ∀ (L : List Ent) (t : Int), t ≤ K → (∀ e ∈ L, e.time ≤ K) → timeL L t ≤ K := by
          intro L
          induction L with
          | nil => intro t ht _; exact ht
          | cons x L ih =>
            intro t ht hL
            have hx := hL x (by simp)
            unfold timeL
            simp only [List.foldl_cons]
            refine ih _ ?_ (fun e he => hL e (by simp [he]))
            omega
        exact key _ 0 hK (fun e he => (row_good (h.st i) l e he).2)
      have hm : ∀ e ∈ putE ((S.st i).getD l []) who key value false, goodE e ∧ e.time ≤ K + 1 := fun e he => by
        rcases merge_mem he with he | he
        · have := row_good (h.st i) l e he
          exact ⟨this.1, by omega⟩
        · rw [List.mem_singleton] at he
          subst he
          exact ⟨⟨hk.2, hv.2⟩, by dsimp only; omega⟩
      exact ⟨(h.st i).1.set_ l (merge_may _ _) (fun e he => (hm e he).1), ((h.st i).2.mono (by omega)).set_ l (fun e he => (hm e he).2)⟩
    · exact ⟨(h.st a).1, (h.st a).2.mono (by omega)⟩
  · obtain ⟨R, a, b, d⟩ := h.lts p hp h1 h2
    exact ⟨R, a, b.mono (by omega), d⟩
theorem step_good {c : Cfg} {K : Int} {S : WS} {N : Nat} (h : GoodW c K S) (hK : 0 ≤ K) (hok : S.ok c N) (hcf : configP c = true) (s : StpI) : GoodW c (K + 1) (stepW c S s).2 := by
  have hm := h.more (L := K + 1) (by omega)
  have hsame : ∀ {S' : WS}, S'.st = S.st → S'.lts = S.lts → S'.top = S.top → S'.lost = S.lost → GoodW c (K + 1) S' := fun e1 e2 e3 e4 => ⟨by rw [e1]; exact hm.st, by rw [e2]; exact hm.lts, by rw [e2, e3]; exact hm.top, by rw [e2, e4]; exact hm.lost⟩
  unfold stepW
  split
  · exact tick_good hm hcf
  split
  · exact deliver_good hm hok hcf s.id
  split
  · split
    · rename_i hd
      obtain ⟨p, hp, h0, hlt⟩ := due0 (S := S) (id := s.id) (by rw [hd]; decide)
      refine ⟨hm.st, hm.lts, hm.top, fun id hid => ?_⟩
      have hid' : (if id = s.id then true else S.lost id) = true := hid
      split at hid'
      · rename_i e; rw [e]; exact hlt
      · exact hm.lost id hid'
    · exact hm
  split
  · exact hm
  split
  · exact hm
  unfold clientW
  split
  · unfold entryW
    split
    · exact hm
    rename_i hb
    split
    · exact hm
    split
    · rename_i hk7
      exact put_good h hK _ _ _ _ _ (by omega) (by omega)
    split
    · exact hm
    · exact hm
  split
  · exact hm
  split
  · split
    · exact hm
    split
    · exact hm
    · exact hsame rfl rfl rfl rfl
  · exact hsame rfl rfl rfl rfl
theorem new_good {c : Cfg} : GoodW c 0 (WS.new c) := by
  have key : ∀ l ∈ List.replicate c.ln ([] : List Ent), l = [] := fun l hl => (List.mem_replicate.1 hl).2
  refine ⟨fun i => ⟨⟨List.length_replicate, fun l hl => ?_, fun l hl e he => ?_⟩, fun l hl e he => ?_⟩, fun p hp => (by cases hp), fun f t => ?_, fun id h => by cases h⟩
  · rw [key l hl]; rfl
  · rw [key l hl] at he; cases he
  · rw [key l hl] at he; cases he
  · show (0 : Int) ≤ _
    omega
theorem run_good {c : Cfg} (hcf : configP c = true) : ∀ (l : List StpI) (S : WS) (N : Nat), GoodW c N S → S.ok c N → GoodW c ((N + l.length : Nat) : Int) (runW c l S).2 ∧ (runW c l S).2.ok c (N + l.length)
  | [], S, N, h, hok => ⟨h, hok⟩
  | s :: l, S, N, h, hok => by
    have := run_good hcf l (stepW c S s).2 (N + 1) (by have := step_good h (by omega) hok hcf s; exact this) (step_ok hok hcf s)
    rw [List.length_cons, show N + (l.length + 1) = N + 1 + l.length by omega]
    exact this
end
section
open Go.RowKit
theorem pick_mod (a n : Int) (hn : 1 ≤ n) : a % n = if a.tmod n < 0 then a.tmod n + n else a.tmod n := by
  have hb1 : -n < a.tmod n := Int.lt_tmod_of_pos a (by omega)
  have hb2 : a.tmod n < n := Int.tmod_lt_of_pos a (by omega)
  have hd : a = a.tmod n + n * a.tdiv n := (Int.tmod_add_mul_tdiv a n).symm
  split
  · rename_i h
    have h1 : a % n = (a.tmod n + n) % n := by
      conv => lhs; rw [hd, show a.tmod n + n * a.tdiv n = a.tmod n + n + n * (a.tdiv n - 1) by rw [Int.mul_sub]; omega]
      rw [Int.add_mul_emod_self_left]
    rw [h1, Int.emod_eq_of_lt (by omega) (by omega)]
  · rename_i h
    have h1 : a % n = (a.tmod n) % n := by
      conv => lhs; rw [hd]
      rw [Int.add_mul_emod_self_left]
    rw [h1, Int.emod_eq_of_lt (by omega) (by omega)]
theorem picked_any (a n : Int) (w : World) (hn : 1 ≤ n ∧ n ≤ 1000000) : Calls Tryd.prog 5 #[.int .i64 a, .int .i64 n] w fun e w' => e = .returned (.int .i64 (a % n)) ∧ w = w' := by
  have h0 : (n == 0) = false := by simp; omega
  have hb1 : -n < a.tmod n := Int.lt_tmod_of_pos a (by omega)
  have hb2 : a.tmod n < n := Int.tmod_lt_of_pos a (by omega)
  have HP := hide (pick_mod a n hn.1)
  by_cases hneg : a.tmod n < 0
  · have hdn : decide (a.tmod n < 0) = true := by simpa using hneg
    have HP2 := hide ((unhide HP).trans (if_pos hneg))
    go_enter Tryd.func5, Tryd.ntmps5
    go_wp2_with fail
    go_ret
    exact ⟨ret_int (unhide HP2).symm, rfl⟩
  · have hdn : decide (a.tmod n < 0) = false := by simpa using hneg
    have HP2 := hide ((unhide HP).trans (if_neg hneg))
    go_enter Tryd.func5, Tryd.ntmps5
    go_wp2_with fail
    go_ret
    exact ⟨ret_int (unhide HP2).symm, rfl⟩
def lab0 : List Int := [15, 6, 9]
def labTo (zs : List Int) (k : Nat) : List Int := (List.range 3).map fun i => if i < k then zs.getD i 0 % 16 else lab0.getD i 0
def labelsP (zs : List Int) : List Int := labTo zs (min 3 zs.length)
theorem labTo_len (zs : List Int) (k : Nat) : (labTo zs k).length = 3 := by simp [labTo]
theorem labTo_succ (zs : List Int) (k : Nat) (hk : k < 3) : labTo zs (k + 1) = (labTo zs k).set k (zs.getD k 0 % 16) := by
  refine List.ext_getElem? fun i => ?_
  rw [List.getElem?_set, labTo_len]
  unfold labTo
  by_cases hi : i < 3
  · by_cases h : k = i
    · subst h
      simp [hk]
    · have e : (i < k + 1) = (i < k) := propext ⟨fun _ => by omega, fun _ => by omega⟩
      simp [hi, h, e]
  · rw [List.getElem?_eq_none (by simp; omega), if_neg (by omega), List.getElem?_eq_none (by simp; omega)]
theorem labels_bounds (zs : List Int) : ∀ z ∈ labelsP zs, 0 ≤ z ∧ z < 16 := by
  intro z hz
  unfold labelsP labTo at hz
  obtain ⟨i, hi, rfl⟩ := List.mem_map.1 hz
  have h3 := List.mem_range.1 hi
  split
  · omega
  · obtain h | h | h : i = 0 ∨ i = 1 ∨ i = 2 := by omega
    all_goals subst h; decide
set_option maxRecDepth 100000 in
theorem labelsOf_any (A : Option Addr) (n cc : Nat) (zs : List Int) (B : Nat) (w : World) (hl : zs.length = n) (hm : n ≤ maxLen) (hr : Reads w B 1 A n (zs.map (.int .i64))) (hB : B ≤ w.heap.size) :
    Calls Tryd.prog 9 #[.slice A n cc] w fun e w' => ∃ g, e = .returned (.slice (some ⟨g, 0, none⟩) 3 3) ∧ IRow w' g (labelsP zs) [] ∧ w.heap.size ≤ g ∧ Below w.heap.size w w' := by
  obtain ⟨wx, hwx⟩ : ∃ wx, wx = w.alloc (.cells #[.int .i64 15, .int .i64 6, .int .i64 9] 3) := ⟨_, rfl⟩
  obtain ⟨g, hg⟩ : ∃ g, g = w.heap.size := ⟨_, rfl⟩
  have hbx : Below w.heap.size w wx := by rw [hwx]; exact (Below.refl _ _).alloc (Nat.le_refl _) _
  have kx : IRow wx g (labTo zs 0) [] := by rw [hwx, hg]; exact Blk.new _ _ _
  have HPI := hide (fun a W => picked_any a 16 W (by omega))
  have HR := hide hr
  have HL := hide hl
  have HG := hide hg
  have HWX := hide hwx
  have HB := hide hB
  have HK := hide (And.intro kx hbx)
  unfold maxLen at hm
  clear hr hl hg hwx hbx kx hB
  go_enter Tryd.func9, Tryd.ntmps9
  go_upto_region 2 with fail
  rw [← unhide HWX, ← unhide HG]
  go_wp2_with fail
  go_loopw [4] (fun i wr => ∃ k : Nat, k ≤ 3 ∧ k ≤ n ∧ i = .int .i64 k ∧ Hid (IRow wr g (labTo zs k) [] ∧ Below w.heap.size w wr)) (fun i _ => 3 - (intOf i).toNat)
  case atStart => exact ⟨0, by omega, by omega, rfl, HK⟩
  case round =>
    obtain ⟨k, hk, hkn, rfl, HA⟩ := hrel
    by_cases h3 : k < 3
    · by_cases hn : k < n
      · have d1 : decide ((k : Int) < 3) = true := by simp; omega
        have d2 : decide ((k : Int) < (n : Int)) = true := by simp; omega
        have hi3 : (k : Int) < 3 := by omega
        have hin : (k : Int) < (n : Int) := by omega
        obtain ⟨bz, oz, z, hA, hbz, hz, hcz⟩ := at_num ((unhide HR).below ((unhide HA).2.mono (unhide HB))) hn
        subst hA
        have HZ := hide (show zs.getD k 0 = z by rw [List.getD_eq_getElem?_getD, hz]; rfl)
        have hlt : k < (labTo zs k).length := by rw [labTo_len]; exact h3
        have c1 := (unhide HA).1.cell (List.getElem?_eq_getElem hlt)
        have f1 := (unhide HA).1.frozen k
        clear hz hbz
        go_wp2_with fail
        refine (unhide HPI z _).mono ?_
        rintro _ _ ⟨rfl, rfl⟩
        go_wp2_with fail
        go_roundw
        case rel => exact ⟨k + 1, by omega, by omega, by go_num, hide ⟨by rw [labTo_succ zs k h3, unhide HZ]; exact (unhide HA).1.set_ hlt _, (unhide HA).2.setCell (p := ⟨g, k, none⟩) (by rw [unhide HG]; exact Nat.le_refl _) _⟩⟩
        case measure => simp [intOf]; omega
      · obtain rfl : k = n := by omega
        have d1 : decide ((k : Int) < 3) = true := by simp; omega
        have d2 : decide ((k : Int) < (k : Int)) = false := by simp
        have HF := hide (show labTo zs k = labelsP zs by unfold labelsP; rw [unhide HL, Nat.min_eq_right (by omega)])
        go_wp2_with fail
        go_ret
        exact ⟨g, rfl, by rw [← unhide HF]; exact (unhide HA).1, by rw [unhide HG]; exact Nat.le_refl _, (unhide HA).2⟩
    · obtain rfl : k = 3 := by omega
      have d1 : decide ((3 : Int) < 3) = false := by simp
      have HF := hide (show labTo zs 3 = labelsP zs by unfold labelsP; rw [unhide HL, Nat.min_eq_left (by omega)])
      go_wp2_with fail
      go_ret
      exact ⟨g, rfl, by rw [← unhide HF]; exact (unhide HA).1, by rw [unhide HG]; exact Nat.le_refl _, (unhide HA).2⟩
end
end Go.Proofs.YtbolcebmbpepdaaDoor
