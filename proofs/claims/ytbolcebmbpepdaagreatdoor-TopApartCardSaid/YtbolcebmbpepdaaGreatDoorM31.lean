/- Contracts and plain facts, set together by program out of smaller texts. Conditions: none beyond what each theorem states. -/
import Derived.Test.YtbolcebmbpepdaaGreatDoorM30
namespace Go.Proofs.YtbolcebmbpepdaaGreatDoor
set_option linter.unusedVariables false
section
open Go.RowKit
theorem zPa : ∀ (b a : List Ent) (z : Ent), z ∈ b.foldl insE a → z ∈ a ∨ z ∈ b
 | [], a, z, h => Or.inl h
 | y :: b, a, z, h => by
  rcases zPa b (insE a y) z h with h | h
  ·rcases zPj a y z h with h | h
   ·exact Or.inl h
   ·exact Or.inr (by simp [h])
  ·exact Or.inr (by simp [h])
theorem mayP_mk {l : List Ent} (h1 : ∀ x ∈ l, oneP x = true) (h2 : zEg l) (h3 : l.length ≤ 8) : mayP l = true := by
 unfold mayP
 rw [zSb l none h1 h2 (fun q hq => by cases hq)]
 simpa using h3
theorem zKc (a b : List Ent) : mayP (zCz a b).1 = true := by
 unfold zCz
 split
 ·rename_i h
  rw [Bool.and_eq_true] at h
  split
  ·rfl
  ·rename_i h8
   obtain ⟨sa, ka, _, oa⟩ := zFf h.1
   obtain ⟨_, kb, _, ob⟩ := zFf h.2
   refine mayP_mk (fun x hx => ?_) (zPt b kb a sa ka).1 (by dsimp only; omega)
   rcases zPa b a x hx with h | h
   ·exact oa x h
   ·exact ob x h
 ·rfl
theorem yCf {l : List Ent} (h : mayP l = true) : ∀ e ∈ l, 0 ≤ e.time ∧ e.time ≤ 2000000 := fun e he => by
 have := (zMg ((zFf h).2.2.2 e he)).2.2.1
 omega
theorem packP_u8 (fs : List (Int × Int)) : ∀ z ∈ (zEh fs).1, 0 ≤ z ∧ z ≤ 255 := by
 intro z hz
 unfold zEh at hz
 split at hz
 ·cases hz
 split at hz
 ·unfold bytesOf at hz
  obtain ⟨i, _, rfl⟩ := List.mem_map.1 hz
  have := zNi (zAw fs) (zJh _) i
  omega
 ·cases hz
theorem zUj (c : Cfg) (zs : List Int) : ∀ z ∈ (zCa c zs).1, 0 ≤ z ∧ z ≤ 255 := by
 unfold zCa
 intro z hz
 split at hz
 ·cases hz
 split at hz
 ·cases hz
 split at hz
 ·cases hz
 ·exact packP_u8 _ z hz
theorem rumP_u8 (c : Cfg) (a b : Int) (rows : List (List Ent)) : ∀ z ∈ (zAv c a b rows).1, 0 ≤ z ∧ z ≤ 255 := by
 intro z hz
 unfold zAv at hz
 split at hz
 ·cases hz
 split at hz
 ·cases hz
 split at hz
 ·cases hz
 split at hz
 ·cases hz
 split at hz
 ·cases hz
 ·unfold bytesOf at hz
  obtain ⟨i, _, rfl⟩ := List.mem_map.1 hz
  have := zNi (zAw (zCv rows (zAn a.toNat b.toNat c.la.zs 0))) (zJh _) i
  omega
theorem zTt (bs : List Int) : ∀ (ws : List Int) (a : Nat), ∀ z ∈ zEq bs ws a, 0 ≤ z
 | [], a, z, h => by cases h
 | y :: ws, a, z, h => by
  rw [zEq, List.mem_cons] at h
  rcases h with rfl | h
  ·omega
  ·exact zTt bs ws _ z h
theorem zKp (c : Cfg) (bs : List Int) : (∀ z ∈ (zAp c bs).1, 0 ≤ z ∧ z ≤ 1048576) ∧ ((zAp c bs).1.length = 0 ∨ (zAp c bs).1.length = c.m) := by
 unfold zAp
 split
 ·exact ⟨fun z hz => (by cases hz), Or.inl rfl⟩
 split
 ·exact ⟨fun z hz => (by cases hz), Or.inl rfl⟩
 split
 ·exact ⟨fun z hz => (by cases hz), Or.inl rfl⟩
 ·rename_i h1 h2 h3
  refine ⟨fun z hz => ?_, Or.inr ?_⟩
  ·have h4 : bigN z = false := by
    cases hb : bigN z with
    | false => rfl
    | true => exact absurd (List.any_eq_true.2 ⟨z, hz, hb⟩) h3
   have h5 : 0 ≤ z := by
    dsimp only at hz
    unfold zBm at hz
    split at hz
    ·cases hz
    split at hz
    ·cases hz
    split at hz
    ·exact zTt _ _ _ z hz
    ·cases hz
   simp [bigN] at h4
   omega
  ·dsimp only
   rw [zOh _ _ (by simpa using h2), List.length_replicate]
   rfl
theorem yBa (c : Cfg) (a b : Int) (bs : List Int) : (zBv c a b bs).1.length = 0 ∨ (zBv c a b bs).1.length = c.ln := by
 unfold zBv
 split
 ·exact Or.inl rfl
 split
 ·exact Or.inl rfl
 split
 ·exact Or.inl rfl
 split
 ·exact Or.inr (zHe _ _ _ _)
 ·exact Or.inl rfl
structure WS.ok (S : WS) (c : Cfg) (K : Nat) : Prop where
 sh : ∀ i k, (S.sh i k).ok K
 ask : ∀ i, (S.ask i).length = c.m ∧ ∀ z ∈ S.ask i, 0 ≤ z ∧ z ≤ 1048576
 gn : ∀ i, (S.gn i).length = c.m ∧ ∀ z ∈ S.gn i, 0 ≤ z ∧ z ≤ 1048576
 st : ∀ i, (S.st i).length = c.ln ∧ ∀ q ∈ S.st i, mayP q = true
 bk : ∀ j, (S.bk j).ok c.n K
 len : S.lts.length ≤ 72 * K
 lts : ∀ p ∈ S.lts, (0 ≤ p.fr ∧ p.fr ≤ c.n) ∧ (0 ≤ p.to_ ∧ p.to_ ≤ c.n) ∧ (∀ z ∈ p.data, 0 ≤ z ∧ z ≤ 255) ∧ (p.fr = c.n → p.to_ < c.n)
theorem zOw {s : Shf} {K L : Int} (h : s.ok K) (hL : K ≤ L) : s.ok L := { h with madeK := Int.le_trans h.madeK hL }
theorem WS.ok.more {S : WS} {c : Cfg} {K L : Nat} (h : S.ok c K) (hL : K ≤ L) : S.ok c L :=
 { h with sh := fun i k => zOw (h.sh i k) (by omega), bk := fun j => zQs (h.bk j) (by omega), len := by have := h.len; omega }
theorem zQt {s : Shf} {K : Int} (h : s.ok K) (o : Ordr) : (s.does o).1.ok (K + 1) := zWa h o
theorem zQo {l : List Int} {m : Nat} (h : l.length = m ∧ ∀ z ∈ l, 0 ≤ z ∧ z ≤ 1048576) (k : Nat) (x : Int) (hx : 0 ≤ x ∧ x ≤ 1048576) : (l.set k x).length = m ∧ ∀ z ∈ l.set k x, 0 ≤ z ∧ z ≤ 1048576 :=
 ⟨by rw [List.length_set]; exact h.1, fun z hz => by
  rcases List.mem_or_eq_of_mem_set hz with hz | rfl
  ·exact h.2 z hz
  ·exact hx⟩
theorem zIm {l : List Int} (h : ∀ z ∈ l, 0 ≤ z ∧ z ≤ 1048576) (k : Nat) : 0 ≤ l.getD k 0 ∧ l.getD k 0 ≤ 1048576 := by
 rw [List.getD_eq_getElem?_getD]
 cases hk : l[k]? with
 | none => simp
 | some x => exact h x (List.mem_of_getElem? hk)
theorem sends_ok {c : Cfg} {S : WS} {k : Nat} (hk : k ≤ c.n) : ∀ p ∈ zAx c S k, (0 ≤ p.fr ∧ p.fr ≤ c.n) ∧ (0 ≤ p.to_ ∧ p.to_ ≤ c.n) ∧ (∀ z ∈ p.data, 0 ≤ z ∧ z ≤ 255) ∧ (p.fr = c.n → p.to_ < c.n) := by
 intro p hp
 unfold zAx at hp
 obtain ⟨i, hi, hp⟩ := List.mem_flatMap.1 hp
 have hi' := List.mem_range.1 hi
 unfold zLm at hp
 rcases List.mem_cons.1 hp with rfl | hp
 ·exact ⟨by dsimp only; omega, by dsimp only; omega, zUj _ _, fun h => by dsimp only at h; omega⟩
 ·unfold zDx at hp
  obtain ⟨j, hj, rfl⟩ := List.mem_map.1 hp
  have hj' := List.mem_range.1 (List.mem_filter.1 hj).1
  exact ⟨by dsimp only; omega, by dsimp only; omega, rumP_u8 _ _ _ _, fun h => by dsimp only at h; omega⟩
theorem yDo {c : Cfg} {S : WS} {k : Nat} (hk : k ≤ c.n) : ∀ p ∈ zBs c S k, (0 ≤ p.fr ∧ p.fr ≤ c.n) ∧ (0 ≤ p.to_ ∧ p.to_ ≤ c.n) ∧ (∀ z ∈ p.data, 0 ≤ z ∧ z ≤ 255) ∧ (p.fr = c.n → p.to_ < c.n) := by
 intro p hp
 unfold zBs at hp
 obtain ⟨i, hi, rfl⟩ := List.mem_map.1 hp
 have hi' := List.mem_range.1 hi
 exact ⟨by dsimp only; omega, by dsimp only; omega, zUj _ _, fun _ => by dsimp only; omega⟩
theorem rums_len (c : Cfg) (S : WS) (i k : Nat) : (zDx c S i k).length ≤ k := by
 unfold zDx
 rw [List.length_map]
 exact Nat.le_trans (List.length_filter_le _ _) (by rw [List.length_range]; exact Nat.le_refl _)
theorem yCx (c : Cfg) (S : WS) (i k : Nat) (hi : i < k) : (zDx c S i k).length + 1 ≤ k := by
 unfold zDx
 rw [List.length_map]
 have h : ((List.range k).filter fun j => !(j == i)).length < (List.range k).length := by
  refine List.length_filter_lt_length_iff_exists.2 ⟨i, List.mem_range.2 hi, by simp⟩
 rw [List.length_range] at h
 omega
theorem zIr (c : Cfg) (S : WS) (hn : c.n ≤ 8) : ∀ k, k ≤ c.n → (zAx c S k).length ≤ 8 * k
 | 0, _ => by simp [zAx]
 | k + 1, hk => by
  have h1 := zIr c S hn k (by omega)
  have h2 := yCx c S k c.n (by omega)
  unfold zAx at h1 ⊢
  rw [List.range_succ, List.flatMap_append, List.length_append]
  simp only [List.flatMap_cons, List.flatMap_nil, List.append_nil]
  have h3 : (zLm c S k).length = (zDx c S k c.n).length + 1 := rfl
  omega
theorem zLo (c : Cfg) (S : WS) (k : Nat) : (zBs c S k).length = k := by simp [zBs]
theorem zLp (R : List (List Ent)) : ∀ (k : Nat) (q : List (List Ent)), (∀ r ∈ q, mayP r = true) → (zEa R k q).length = q.length ∧ ∀ r ∈ zEa R k q, mayP r = true
 | 0, q, h => ⟨rfl, h⟩
 | k + 1, q, h => by
  obtain ⟨h1, h2⟩ := zLp R k q h
  rw [zEa]
  refine ⟨by rw [List.length_set, h1], fun r hr => ?_⟩
  rcases List.mem_or_eq_of_mem_set hr with hr | rfl
  ·exact h2 r hr
  ·exact zKc _ _
theorem gnAt_ok {S : WS} {c : Cfg} {K L : Nat} (i k : Nat) (l : List Int) (hl : ∀ z ∈ l, 0 ≤ z ∧ z ≤ 1048576) (h : S.ok c L) (hs : ∀ a b, (a ≠ i ∨ k ≤ b) → (S.sh a b).ok K) (hKL : L = K + 1) :
    (gnAt S i l k).ok c L ∧ ∀ a b, (a ≠ i ∨ k + 1 ≤ b) → ((gnAt S i l k).sh a b).ok K := by
 unfold gnAt
 split
 ·refine ⟨{ h with sh := fun a b => ?_, gn := fun a => ?_ }, fun a b hab => ?_⟩
  ·dsimp only
   rw [zCe]
   split
   ·rw [zCe]
    split
    ·have := zQt (hs i k (Or.inr (Nat.le_refl _))) ⟨1, l.getD k 0 - (S.gn i).getD k 0, 0, 0⟩
     rw [hKL]
     exact this
    ·exact h.sh _ _
   ·exact h.sh _ _
  ·dsimp only
   unfold upd1
   split
   ·exact zQo (h.gn i) k _ (zIm hl k)
   ·exact h.gn a
  ·dsimp only
   rw [zCe]
   split
   ·rename_i ha
    subst ha
    rw [zCe, if_neg (by omega)]
    exact hs a b (Or.inr (by omega))
   ·exact hs a b (Or.inl (by assumption))
 ·exact ⟨h, fun a b hab => hs a b (by omega)⟩
theorem zOz {c : Cfg} {K : Nat} (i : Nat) (l : List Int) (hl : ∀ z ∈ l, 0 ≤ z ∧ z ≤ 1048576) {S : WS} (h : S.ok c K) : ∀ k, (zBa i l k S).ok c (K + 1) ∧ ∀ a b, (a ≠ i ∨ k ≤ b) → ((zBa i l k S).sh a b).ok K
 | 0 => ⟨h.more (by omega), fun a b _ => h.sh a b⟩
 | k + 1 => by
  obtain ⟨h1, h2⟩ := zOz i l hl h k
  exact gnAt_ok i k l hl h1 h2 rfl
theorem come_ok {S : WS} {c : Cfg} {K : Nat} {p : PoD} (h : S.ok c K) (hf : 0 ≤ p.fr ∧ p.fr ≤ c.n) (hc : c.br = c.n) (hf2 : p.to_ = c.n → p.fr < c.n) : (zFd c S p).ok c (K + 1) := by
 obtain ⟨hv, hvl⟩ := zKp c p.data
 unfold zFd
 split
 ·rename_i ht
  refine { h.more (Nat.le_succ K) with bk := fun j => ?_ }
  unfold WS.wants
  dsimp only
  split
  ·exact want_ok (h.bk j) (by have := hf2 (by omega); omega) (zIm hv j)
  ·exact zQs (h.bk j) (by omega)
 split
 ·exact (zOz _ _ hv h _).1
 ·refine { h.more (Nat.le_succ K) with st := fun a => ?_ }
  unfold WS.learns
  dsimp only
  unfold upd1
  split
  ·rename_i ha
   obtain ⟨h1, h2⟩ := zLp (zBv c p.fr p.to_ p.data).1 (zBv c p.fr p.to_ p.data).1.length (S.st p.to_.toNat) (h.st _).2
   exact ⟨h1.trans (h.st _).1, h2⟩
  ·exact h.st a
theorem tick_ok {S : WS} {c : Cfg} {K : Nat} (h : S.ok c K) (hf : zAh c = true) : (zGj c S).2.ok c (K + 1) := by
 obtain ⟨⟨hn, hn1, hn8⟩, _, _, _, hcap, _, _⟩ := zAj hf
 refine { h.more (Nat.le_succ K) with sh := fun i k => zQt (h.sh i k) zHo, bk := fun j => ?_, len := ?_, lts := fun p hp => ?_ }
 ·show (if j < c.m then (zBj c.cap c.tk (S.bk j)).1 else S.bk j).ok c.n ((K + 1 : Nat) : Int)
  split
  ·exact zPc (h.bk j) hcap
  ·exact zQs (h.bk j) (by omega)
 ·show (S.lts ++ (zAx c S.aged c.n ++ zBs c S c.n)).length ≤ _
  have h1 := zIr c S.aged hn8 c.n (Nat.le_refl _)
  have h2 := zLo c S c.n
  have := h.len
  simp only [List.length_append]
  omega
 ·rcases List.mem_append.1 (show p ∈ S.lts ++ (zAx c S.aged c.n ++ zBs c S c.n) from hp) with hp | hp
  ·exact h.lts p hp
  ·rcases List.mem_append.1 hp with hp | hp
   ·exact sends_ok (Nat.le_refl _) p hp
   ·exact yDo (Nat.le_refl _) p hp
theorem zNt {S : WS} {c : Cfg} {K : Nat} (h : S.ok c K) (p : PoD) (id : Int) : (S.opened p id).ok c K := { h with }
theorem yBh {S : WS} {c : Cfg} {K : Nat} (h : S.ok c K) (hf : zAh c = true) (id : Int) : (zCj c S id).2.ok c (K + 1) := by
 obtain ⟨⟨hn, hn1, hn8⟩, _⟩ := zAj hf
 unfold zCj
 split
 ·exact h.more (Nat.le_succ K)
 cases hp : S.lts[id.toNat]? with
 | none => exact h.more (Nat.le_succ K)
 | some p =>
  dsimp only
  split
  ·exact h.more (Nat.le_succ K)
  ·obtain ⟨h1, h2, h3, h4⟩ := h.lts p (List.mem_of_getElem? hp)
   exact come_ok (zNt h p id) h1 hn (fun e => by omega)
theorem entry_ok {S : WS} {c : Cfg} {K : Nat} (h : S.ok c K) (s : StpI) (i : Nat) : (zBu c S s i).2.ok c (K + 1) := by
 unfold zBu
 split
 ·exact h.more (Nat.le_succ K)
 split
 ·exact h.more (Nat.le_succ K)
 split
 ·refine { h.more (Nat.le_succ K) with st := fun a => ?_ }
  dsimp only
  rw [zCe]
  split
  ·refine ⟨by rw [List.length_set]; exact (h.st i).1, fun q hq => ?_⟩
   rcases List.mem_or_eq_of_mem_set hq with hq | rfl
   ·exact (h.st i).2 q hq
   ·exact zKc _ _
  ·exact h.st a
 split
 ·exact h.more (Nat.le_succ K)
 ·exact h.more (Nat.le_succ K)
theorem yEg {S : WS} {c : Cfg} {K : Nat} (h : S.ok c K) (s : StpI) (i : Nat) : (zAz c S s i).2.ok c (K + 1) := by
 unfold zAz
 split
 ·exact entry_ok h s i
 split
 ·exact h.more (Nat.le_succ K)
 split
 ·split
  ·exact h.more (Nat.le_succ K)
  split
  ·exact h.more (Nat.le_succ K)
  ·refine { h.more (Nat.le_succ K) with ask := fun a => ?_ }
   dsimp only
   rw [zCe]
   split
   ·have := zIm (h.ask i).2 s.item.toNat
    exact zQo (h.ask i) _ _ (by omega)
   ·exact h.ask a
 ·refine { h.more (Nat.le_succ K) with sh := fun a b => ?_ }
  dsimp only
  rw [zCe]
  split
  ·rw [zCe]
   split
   ·exact zQt (h.sh i _) _
   ·exact zOw (h.sh i b) (by omega)
  ·exact zOw (h.sh a b) (by omega)
theorem step_ok {S : WS} {c : Cfg} {K : Nat} (h : S.ok c K) (hf : zAh c = true) (s : StpI) : (stepW c S s).2.ok c (K + 1) := by
 unfold stepW
 split
 ·exact tick_ok h hf
 split
 ·exact yBh h hf _
 split
 ·split
  ·exact { h.more (Nat.le_succ K) with }
  ·exact h.more (Nat.le_succ K)
 split
 ·exact h.more (Nat.le_succ K)
 split
 ·exact h.more (Nat.le_succ K)
 ·exact yEg h s _
theorem zNz {c : Cfg} (hf : zAh c = true) : (WS.new c).ok c 0 := by
 obtain ⟨_, _, _, _, _, _, hmi⟩ := zAj hf
 refine ⟨fun _ _ => new_ok, fun _ => ⟨List.length_replicate, fun z hz => ?_⟩, fun _ => ⟨List.length_replicate, fun z hz => ?_⟩, fun _ => ⟨List.length_replicate, fun q hq => ?_⟩, fun j => ?_, Nat.le_refl _, fun p hp => by cases hp⟩
 ·rw [(List.mem_replicate.1 hz).2]; omega
 ·rw [(List.mem_replicate.1 hz).2]; omega
 ·rw [(List.mem_replicate.1 hq).2]; rfl
 ·show (if j < c.m then zIp (BkS.new c.n) (c.mi.zs.getD j 0) else BkS.new c.n).ok c.n ((0 : Nat) : Int)
  split
  ·have h1 := zYz c.n
   have h2 := zIm hmi j
   exact { h1 with res := ⟨by show 0 ≤ 0 + _; omega, by show 0 + _ ≤ 0 + _; omega, by show 0 + _ ≤ _; omega⟩, qs := by show sumL (List.replicate c.n 0) ≤ 0 + _; rw [zWj]; omega }
  ·exact zYz c.n
end
section
open Go.RowKit
theorem fv_num (v n : Nat) (hv : v < 2 ^ n) (f : Nat → Nat) (s : Nat) (hf : ∀ j, j < n → f (s + j) = v / 2 ^ (n - 1 - j) % 2) : fv f s n = v := by
 have key : ∀ m, m ≤ n → fv f s m = v / 2 ^ (n - m) := by
  intro m
  induction m with
  | zero => intro _; rw [fv, Nat.sub_zero]; exact (Nat.div_eq_of_lt hv).symm
  | succ m ih =>
   intro h
   rw [fv, ih (by omega), hf m (by omega), show n - 1 - m = n - (m + 1) by omega, show n - m = (n - (m + 1)) + 1 by omega, Nat.pow_succ, ← Nat.div_div_eq_div_mul]
   omega
 have := key n (Nat.le_refl _)
 rwa [Nat.sub_self, Nat.pow_zero, Nat.div_one] at this
theorem zZz (W : Nat) (fs : List (Int × Int)) (h : ∀ f ∈ fs, f.1 = (W : Int)) (k j : Nat) (f : Int × Int) (hk : fs[k]? = some f) (hj : j < W) : (zAw fs).getD (W * k + j) 0 = f.2.toNat / 2 ^ (W - 1 - j) % 2 := by
 have e : zAw fs = (fs.map zCg).flatten := by unfold zAw; rw [List.flatMap_def]
 rw [e, List.getD_eq_getElem?_getD, Nat.mul_comm W k, zIl W (fs.map zCg) (fun cs hcs => by
  obtain ⟨g, hg, rfl⟩ := List.mem_map.1 hcs
  rw [zFv, h g hg]; rfl) k j hj, List.getElem?_map, hk]
 have hf := h f (List.mem_of_getElem? hk)
 have := zTi f j (by rw [hf]; exact hj)
 simp only [Option.map_some, Option.bind_some]
 rw [this, hf]
 rfl
theorem yBy (W : Nat) (fs : List (Int × Int)) (h : ∀ f ∈ fs, f.1 = (W : Int)) (n k : Nat) (f : Int × Int) (hk : fs[k]? = some f) (hv : f.2.toNat < 2 ^ W) (hn : W * fs.length ≤ 8 * n) : fv (bitB (bytesOf (zAw fs) n)) (W * k) W = f.2.toNat := by
 have hkl := (List.getElem?_eq_some_iff.1 hk).1
 refine fv_num _ _ hv _ _ fun j hj => ?_
 have : W * k + W ≤ W * fs.length := by
  have := Nat.mul_le_mul_left W (show k + 1 ≤ fs.length by omega)
  rw [Nat.mul_add, Nat.mul_one] at this
  exact this
 rw [zXl _ (zJh _) n _ (by omega)]
 exact zZz W fs h k j f hk hj
theorem zQj : ∀ (a b : List Ent), zEg a → zEg b → (∀ e, e ∈ a ↔ e ∈ b) → a = b
 | [], [], _, _, _ => rfl
 | [], y :: b, _, _, h => absurd ((h y).2 (by simp)) (by simp)
 | x :: a, [], _, _, h => absurd ((h x).1 (by simp)) (by simp)
 | x :: a, y :: b, ha, hb, h => by
  have h1 := List.pairwise_cons.1 ha
  have h2 := List.pairwise_cons.1 hb
  have hxy : x = y := by
   rcases List.mem_cons.1 ((h x).1 (by simp)) with e | e
   ·exact e
   ·rcases List.mem_cons.1 ((h y).2 (by simp)) with e2 | e2
    ·exact e2.symm
    ·have := h1.1 y e2
     have := h2.1 x e
     omega
  subst hxy
  rw [zQj a b h1.2 h2.2 fun e => ⟨fun he => ?_, fun he => ?_⟩]
  ·rcases List.mem_cons.1 ((h e).1 (by simp [he])) with e2 | e2
   ·have := h1.1 e he
    rw [e2] at this
    omega
   ·exact e2
  ·rcases List.mem_cons.1 ((h e).2 (by simp [he])) with e2 | e2
   ·have := h2.1 e he
    rw [e2] at this
    omega
   ·exact e2
theorem zTs : ∀ {l : List Ent}, zEg l → ∀ {e : Ent}, e ∈ l → keyE l e.key = some e
 | [], _, e, he => by cases he
 | x :: l, h, e, he => by
  have h1 := List.pairwise_cons.1 h
  unfold keyE
  rcases List.mem_cons.1 he with rfl | he
  ·simp
  ·have := h1.1 e he
   rw [List.find?_cons_of_neg (by simp; omega)]
   exact zTs h1.2 he
theorem yCn {e : Ent} {k : Nat} (h : zIq e) (hk : e.key = k) : decE k (zDw e) = e ∧ isN (zDw e) = true := by
 obtain ⟨⟨v0, v1⟩, ⟨t0, t1⟩, w0, w1⟩ := h
 obtain ⟨key, value, time, who, gone⟩ := e
 dsimp only at hk v0 v1 t0 t1 w0 w1
 obtain ⟨v, rfl⟩ := Int.eq_ofNat_of_zero_le v0
 obtain ⟨t, rfl⟩ := Int.eq_ofNat_of_zero_le t0
 obtain ⟨q, rfl⟩ := Int.eq_ofNat_of_zero_le w0
 subst hk
 unfold decE isN zDw zLw
 dsimp only
 simp only [Int.toNat_natCast]
 cases gone
 ·constructor
  ·congr 1
   ·congr 1; simp; omega
   ·congr 1; simp; omega
   ·congr 1; simp; omega
   ·simp; omega
  ·simp; omega
 ·constructor
  ·congr 1
   ·congr 1; simp; omega
   ·congr 1; simp; omega
   ·congr 1; simp; omega
   ·simp; omega
  ·simp; omega
def zGu (e : Ent) : Prop := e.key < 8 ∧ e.value ≤ 255
theorem yDn {l : List Ent} (hm : mayP l = true) (hg : ∀ e ∈ l, zGu e) : ∀ e ∈ l, zIq e := fun e he => by
 obtain ⟨_, ⟨h1, h2⟩, ⟨h3, h4⟩, h5⟩ := zMg ((zFf hm).2.2.2 e he)
 exact ⟨⟨h1, (hg e he).2⟩, ⟨h3, h4⟩, h5⟩
theorem zJt {R : List (List Ent)} {P : List Ent → Prop} (h : ∀ l ∈ R, P l) (h0 : P []) (i : Nat) : P (R.getD i []) := by
 rw [List.getD_eq_getElem?_getD]
 cases hk : R[i]? with
 | none => exact h0
 | some x => exact h x (List.mem_of_getElem? hk)
def zEx (c : Cfg) (a b : Int) (R : List (List Ent)) : List (List Ent) := (List.range c.la.zs.length).map fun i => if i ∈ zAn a.toNat b.toNat c.la.zs 0 then R.getD i [] else []
theorem zGh {c : Cfg} {a b : Int} {R : List (List Ent)} (hcf : zAh c = true) (ha : 0 ≤ a ∧ a < c.br) (hb : 0 ≤ b ∧ b < c.br) (hlen : R.length = c.la.zs.length) (hmay : ∀ l ∈ R, mayP l = true) (hgood : ∀ l ∈ R, ∀ e ∈ l, zGu e) :
    zAv c a b R = (bytesOf (zAw (zCv R (zAn a.toNat b.toNat c.la.zs 0))) (34 * (zAn a.toNat b.toNat c.la.zs 0).length), 0) ∧ zBv c a b (zAv c a b R).1 = (zEx c a b R, 0) := by
 have hab : brOk c a = true ∧ brOk c b = true := by unfold brOk; simp; omega
 unfold zEx
 have hnd := zHr a.toNat b.toNat c.la.zs 0
 have hlt : ∀ i ∈ zAn a.toNat b.toNat c.la.zs 0, i < c.la.zs.length := fun i hi => by have := zGk _ _ _ _ i hi; omega
 have hP1 : zAv c a b R = (bytesOf (zAw (zCv R (zAn a.toNat b.toNat c.la.zs 0))) (34 * (zAn a.toNat b.toNat c.la.zs 0).length), 0) := by
  unfold zAv
  rw [if_neg (by rw [hcf]; simp), if_neg (by rw [hab.1, hab.2]; simp), if_neg (by rw [hlen]; simp), if_neg, if_neg]
  ·rw [List.any_eq_true]
   rintro ⟨i, _, h⟩
   unfold zDm at h
   obtain ⟨e, he, h2⟩ := List.any_eq_true.1 h
   have := zJt (P := fun l => ∀ e ∈ l, zGu e) hgood (fun e he => by cases he) i e he
   unfold zGu at this
   simp at h2
   omega
  ·rw [List.any_eq_true]
   rintro ⟨l, hl, h⟩
   rw [hmay l hl] at h
   cases h
 refine ⟨hP1, ?_⟩
 rw [hP1]
 dsimp only
 generalize hbs : bytesOf (zAw (zCv R (zAn a.toNat b.toNat c.la.zs 0))) (34 * (zAn a.toNat b.toNat c.la.zs 0).length) = bs
 have hP : zBv c a b bs = if bs.length ≠ 34 * (zAn a.toNat b.toNat c.la.zs 0).length then ([], 4) else if zHz bs (zAn a.toNat b.toNat c.la.zs 0).length = true then (zCl bs (zAn a.toNat b.toNat c.la.zs 0) c.la.zs.length (8 * (zAn a.toNat b.toNat c.la.zs 0).length), 0) else ([], 4) := by
  unfold zBv
  rw [if_neg (by rw [hcf]; simp), if_neg (by rw [hab.1, hab.2]; simp)]
 rw [hP]
 generalize zAn a.toNat b.toNat c.la.zs 0 = is at hnd hlt hbs
 have hlb : bs.length = 34 * is.length := by rw [← hbs]; simp [bytesOf]
 rw [if_neg (by rw [hlb]; simp)]
 have hRm : ∀ i, mayP (R.getD i []) = true := zJt (P := fun l => mayP l = true) hmay rfl
 have hRg : ∀ i, ∀ e ∈ R.getD i [], zGu e := zJt (P := fun l => ∀ e ∈ l, zGu e) hgood (fun e he => by cases he)
 have hRs : ∀ i, ∀ e ∈ R.getD i [], zIq e := fun i => yDn (hRm i) (hRg i)
 have hsl : ∀ p i x : Nat, is[p]? = some i → x < 8 → slN bs (8 * p + x) = zDu (R.getD i []) x := fun p i x hp hx => by
  have hpl := (List.getElem?_eq_some_iff.1 hp).1
  have h34 : ∀ f ∈ zCv R is, f.1 = ((34 : Nat) : Int) := fun f hf => rumFs_34 R is f hf
  have := yBy 34 (zCv R is) h34 (34 * is.length) (8 * p + x) _ (zRv R is p i x hp hx) (by dsimp only; rw [Int.toNat_natCast]; exact zUx (hRs i) x) (by rw [zSl]; omega)
  rw [hbs, Int.toNat_natCast] at this
  exact this
 have hdec : ∀ p i x : Nat, is[p]? = some i → x < 8 → (isN (slN bs (8 * p + x)) = false ∧ slN bs (8 * p + x) = 0 ∧ keyE (R.getD i []) x = none) ∨ (isN (slN bs (8 * p + x)) = true ∧ ∃ e, keyE (R.getD i []) x = some e ∧ decE x (slN bs (8 * p + x)) = e) := fun p i x hp hx => by
  rw [hsl p i x hp hx]
  unfold zDu
  cases hk : keyE (R.getD i []) x with
  | none => exact .inl ⟨by decide, rfl, rfl⟩
  | some e =>
   have hm := List.mem_of_find?_eq_some hk
   have hkk : e.key = x := by have := List.find?_some hk; simpa using this
   obtain ⟨h1, h2⟩ := yCn (hRs i e hm) hkk
   exact .inr ⟨h2, e, rfl, h1⟩
 have hgoodA : zHz bs is.length = true := by
  unfold zHz
  rw [List.all_eq_true]
  intro k hk
  have hk8 : k < 8 * is.length := List.mem_range.1 hk
  obtain ⟨i, hi⟩ : ∃ i, is[k / 8]? = some i := ⟨_, List.getElem?_eq_getElem (by omega)⟩
  have e8 : 8 * (k / 8) + k % 8 = k := by omega
  have := hdec (k / 8) i (k % 8) hi (Nat.mod_lt _ (by omega))
  rw [e8] at this
  unfold zGz
  rw [Bool.or_eq_true]
  rcases this with ⟨_, h2, _⟩ | ⟨h1, e, h2, h3⟩
  ·left; rw [h2]; rfl
  ·right
   rw [h1, h3, Bool.true_and]
   exact (zFf (hRm i)).2.2.2 e (List.mem_of_find?_eq_some h2)
 rw [if_pos hgoodA]
 obtain ⟨hg1, hg2⟩ := zKi bs is c.la.zs.length is.length rfl hnd hlt (8 * is.length) (Nat.le_refl _)
 congr 1
 refine List.ext_getElem (by rw [zHe]; simp) fun i h1 h2 => ?_
 have e1 : (zCl bs is c.la.zs.length (8 * is.length))[i] = (zCl bs is c.la.zs.length (8 * is.length)).getD i [] := by rw [List.getD_eq_getElem?_getD, List.getElem?_eq_getElem h1]; rfl
 rw [e1, List.getElem_map, List.getElem_range]
 by_cases hi : i ∈ is
 ·rw [if_pos hi]
  obtain ⟨p, hp⟩ := List.mem_iff_getElem?.1 hi
  have hpl := (List.getElem?_eq_some_iff.1 hp).1
  rw [hg1 p i hp, show min 8 (8 * is.length - 8 * p) = 8 by omega]
  obtain ⟨hs, hko, _, _⟩ := zFf (hRm i)
  refine zQj _ _ (zOo bs p 8) hs fun e => ⟨fun he => ?_, fun he => ?_⟩
  ·obtain ⟨x, hx, h3, h4⟩ := zIk bs p 8 e he
   rcases hdec p i x hp hx with ⟨h5, _⟩ | ⟨_, e2, h6, h7⟩
   ·rw [h5] at h4; cases h4
   ·rw [h3, h7]
    exact List.mem_of_find?_eq_some h6
  ·have hk1 := (hRg i e he).1
   have hk0 := (hko e he).1
   have hkm := zTs hs he
   have hx : e.key.toNat < 8 := by omega
   rw [show e.key = ((e.key.toNat : Nat) : Int) by omega] at hkm
   rcases hdec p i e.key.toNat hp hx with ⟨_, _, h6⟩ | ⟨h5, e2, h6, h7⟩
   ·rw [hkm] at h6; cases h6
   ·rw [hkm] at h6
    cases h6
    have := zMr bs p 8 e.key.toNat
    rw [if_pos ⟨hx, h5⟩, h7] at this
    exact List.mem_of_find?_eq_some this
 ·rw [if_neg hi, hg2 i hi]
end
section
open Go.RowKit
def WS.tkTo (S : WS) (m a b : Nat) : WS := { S with sh := fun i k => if i < a ∧ k < m ∨ i = a ∧ k < b then ((S.sh i k).does zHo).1 else S.sh i k }
theorem yBs (S : WS) (m : Nat) : S.tkTo m 0 0 = S := by
 unfold WS.tkTo
 simp
theorem yDf (S : WS) (m a b : Nat) : S.tkTo m a (b + 1) = { S.tkTo m a b with sh := upd1 (S.tkTo m a b).sh a (upd1 ((S.tkTo m a b).sh a) b (((S.tkTo m a b).sh a b).does zHo).1) } := by
 have h0 : (S.tkTo m a b).sh a b = S.sh a b := if_neg (by omega)
 have h : (S.tkTo m a (b + 1)).sh = upd1 (S.tkTo m a b).sh a (upd1 ((S.tkTo m a b).sh a) b (((S.tkTo m a b).sh a b).does zHo).1) := by
  funext i k
  rw [h0, zCe]
  show (if i < a ∧ k < m ∨ i = a ∧ k < b + 1 then _ else _) = _
  by_cases hi : i = a
  ·subst hi
   rw [if_pos rfl, zCe]
   by_cases hk : k = b
   ·subst hk
    rw [if_pos (by omega), if_pos rfl]
   ·rw [if_neg hk]
    show _ = (if i < i ∧ k < m ∨ i = i ∧ k < b then _ else _)
    by_cases hb : k < b
    ·rw [if_pos (by omega), if_pos (by omega)]
    ·rw [if_neg (by omega), if_neg (by omega)]
  ·rw [if_neg hi]
   show _ = (if i < a ∧ k < m ∨ i = a ∧ k < b then _ else _)
   by_cases hb : i < a ∧ k < m
   ·rw [if_pos (by omega), if_pos (by omega)]
   ·rw [if_neg (by omega), if_neg (by omega)]
 show WS.mk _ _ _ _ _ _ _ _ = _
 rw [← h]
 rfl
theorem tkTo_row (S : WS) (m a : Nat) : S.tkTo m a m = S.tkTo m (a + 1) 0 := by
 unfold WS.tkTo
 congr 1
 funext i k
 by_cases h : i < a ∧ k < m ∨ i = a ∧ k < m
 ·rw [if_pos h, if_pos (by omega)]
 ·rw [if_neg h, if_neg (by omega)]
theorem zXk (c : Cfg) (S : WS) (i k : Nat) : zDx c S i (k + 1) = if k = i then zDx c S i k else zDx c S i k ++ [⟨i, k, (zAv c i k (S.st i)).1⟩] := by
 unfold zDx
 rw [List.range_succ, List.filter_append]
 by_cases h : k = i
 ·subst h
  rw [if_pos rfl]
  simp
 ·rw [if_neg h]
  simp [h]
theorem zUw (c : Cfg) (S : WS) (k : Nat) : zAx c S (k + 1) = zAx c S k ++ zLm c S k := by
 unfold zAx
 rw [List.range_succ, List.flatMap_append]
 simp
theorem zSr (c : Cfg) (S : WS) (k : Nat) : zBs c S (k + 1) = zBs c S k ++ [⟨c.n, k, (zCa c (zBq c S c.m k)).1⟩] := by
 unfold zBs
 rw [List.range_succ, List.map_append]
 rfl
theorem zUc (c : Cfg) (S : WS) (k who : Nat) : zBq c S (k + 1) who = zBq c S k who ++ [(zHw c S k).getD who 0] := by
 unfold zBq
 rw [List.range_succ, List.map_append]
 rfl
theorem zRn (c : Cfg) (S : WS) (k : Nat) : zBh c S (k + 1) = if 0 ≤ zDp c S k then zBh c S k ++ [zDp c S k] else zBh c S k := by
 unfold zBh
 rw [List.range_succ, List.filterMap_append]
 by_cases h : 0 ≤ zDp c S k
 ·rw [if_pos h]; simp [h]
 ·rw [if_neg h]; simp [h]
theorem zXx (S : WS) (a b : List PoD) : (S.posts a).posts b = S.posts (a ++ b) := by
 unfold WS.posts
 dsimp only
 rw [List.append_assoc]
theorem yDa (S : WS) : S.posts [] = S := by
 unfold WS.posts
 rw [List.append_nil]
theorem yBz (a : List PoD) (p : PoD) (k : Nat) : envs k (a ++ [p]) = envs k a ++ [⟨((k + a.length : Nat) : Int), p.fr, p.to_, p.data.length⟩] := by
 rw [zOe]
 rfl
end
section
open Go.RowKit
inductive All2 {α β : Type} (P : α → β → Prop) : List α → List β → Prop where
 | nil : All2 P [] []
 | cons {a : α} {b : β} {l : List α} {m : List β} : P a b → All2 P l m → All2 P (a :: l) (b :: m)
namespace All2
variable {α β γ : Type} {P : α → β → Prop}
theorem len : ∀ {l : List α} {m : List β}, All2 P l m → l.length = m.length
 | _, _, .nil => rfl
 | _, _, .cons _ h => by rw [List.length_cons, List.length_cons, h.len]
theorem append : ∀ {l : List α} {m : List β} {l2 : List α} {m2 : List β}, All2 P l m → All2 P l2 m2 → All2 P (l ++ l2) (m ++ m2)
 | _, _, _, _, .nil, h => h
 | _, _, _, _, .cons a h, k => .cons a (h.append k)
theorem get : ∀ {l : List α} {m : List β} (k : Nat), All2 P l m → (l[k]? = none ∧ m[k]? = none) ∨ ∃ a b, l[k]? = some a ∧ m[k]? = some b ∧ P a b
 | _, _, k, .nil => .inl (by simp)
 | _, _, 0, .cons a h => .inr ⟨_, _, rfl, rfl, a⟩
 | _, _, k + 1, .cons a h => by rw [List.getElem?_cons_succ, List.getElem?_cons_succ]; exact h.get k
theorem map : ∀ (l : List γ) (f : γ → α) (g : γ → β), (∀ x ∈ l, P (f x) (g x)) → All2 P (l.map f) (l.map g)
 | [], _, _, _ => .nil
 | x :: l, f, g, h => .cons (h x (by simp)) (map l f g fun y hy => h y (by simp [hy]))
theorem flatMap : ∀ (l : List γ) (f : γ → List α) (g : γ → List β), (∀ x ∈ l, All2 P (f x) (g x)) → All2 P (l.flatMap f) (l.flatMap g)
 | [], _, _, _ => .nil
 | x :: l, f, g, h => by
  rw [List.flatMap_cons, List.flatMap_cons]
  exact (h x (by simp)).append (flatMap l f g fun y hy => h y (by simp [hy]))
theorem mono {Q : α → β → Prop} (hq : ∀ a b, P a b → Q a b) : ∀ {l : List α} {m : List β}, All2 P l m → All2 Q l m
 | _, _, .nil => .nil
 | _, _, .cons a h => .cons (hq _ _ a) (h.mono hq)
end All2
theorem zEl (l : List Int) (k i : Nat) (v : Int) : (l.set k v).getD i 0 = if k = i ∧ i < l.length then v else l.getD i 0 := by
 rw [List.getD_eq_getElem?_getD, List.getElem?_set, List.getD_eq_getElem?_getD]
 by_cases h : k = i
 ·subst h
  rw [if_pos rfl]
  by_cases h2 : k < l.length
  ·rw [if_pos h2, if_pos ⟨rfl, h2⟩]; rfl
  ·rw [if_neg h2, if_neg (fun e => h2 e.2), List.getElem?_eq_none (by omega)]
 ·rw [if_neg h, if_neg (fun e => h e.1)]
structure BkQ (x : Nat) (s s' : BkS) : Prop where
 rd : s.round = s'.round
 lw : s.wants.length = s'.wants.length
 lg : s.granted.length = s'.granted.length
 lq : s.quota.length = s'.quota.length
 w : ∀ i : Nat, x.testBit i = true → s.wants.getD i 0 = s'.wants.getD i 0
 g : ∀ i : Nat, x.testBit i = true → s.granted.getD i 0 = s'.granted.getD i 0
 q : ∀ i : Nat, x.testBit i = true → s.quota.getD i 0 = s'.quota.getD i 0
theorem BkQ.rndAt {x : Nat} {s s' : BkS} (h : BkQ x s s') (k : Nat) : BkQ x (rndAt s k) (rndAt s' k) := by
 refine ⟨h.rd, h.lw, ?_, ?_, h.w, fun i hi => ?_, fun i hi => ?_⟩
 ·show (s.granted.set _ _).length = (s'.granted.set _ _).length
  rw [List.length_set, List.length_set, h.lg]
 ·show (s.quota.set _ _).length = (s'.quota.set _ _).length
  rw [List.length_set, List.length_set, h.lq]
 ·show (s.granted.set _ _).getD i 0 = (s'.granted.set _ _).getD i 0
  rw [zEl, zEl, h.lg]
  by_cases hk : k = i ∧ i < s'.granted.length
  ·obtain ⟨rfl, h2⟩ := hk
   rw [if_pos ⟨rfl, h2⟩, if_pos ⟨rfl, h2⟩]
   unfold BkS.due
   rw [h.g k hi, h.w k hi, h.q k hi]
  ·rw [if_neg hk, if_neg hk, h.g i hi]
 ·show (s.quota.set _ _).getD i 0 = (s'.quota.set _ _).getD i 0
  rw [zEl, zEl, h.lq]
  by_cases hk : k = i ∧ i < s'.quota.length
  ·obtain ⟨rfl, h2⟩ := hk
   rw [if_pos ⟨rfl, h2⟩, if_pos ⟨rfl, h2⟩]
   unfold BkS.due
   rw [h.g k hi, h.w k hi, h.q k hi]
  ·rw [if_neg hk, if_neg hk, h.q i hi]
theorem BkQ.rnd {x : Nat} {s s' : BkS} (h : BkQ x s s') : ∀ k, BkQ x (rnd s k) (rnd s' k)
 | 0 => h
 | k + 1 => (h.rnd k).rndAt k
theorem BkQ.want {x : Nat} {s s' : BkS} (h : BkQ x s s') (fr : Nat) (n n' : Int) (hn : x.testBit fr = true → n = n') : BkQ x (zEs s fr n) (zEs s' fr n') := by
 refine ⟨h.rd, ?_, h.lg, h.lq, fun i hi => ?_, h.g, h.q⟩
 ·show (s.wants.set _ _).length = (s'.wants.set _ _).length
  rw [List.length_set, List.length_set, h.lw]
 ·show (s.wants.set _ _).getD i 0 = (s'.wants.set _ _).getD i 0
  rw [zEl, zEl, h.lw]
  by_cases hk : fr = i ∧ i < s'.wants.length
  ·obtain ⟨rfl, h2⟩ := hk
   rw [if_pos ⟨rfl, h2⟩, if_pos ⟨rfl, h2⟩, h.w fr hi, hn hi]
  ·rw [if_neg hk, if_neg hk, h.w i hi]
theorem BkQ.wantL {x : Nat} {s s' : BkS} (h : BkQ x s s') (fr : Nat) (n : Int) (hn : x.testBit fr = false) : BkQ x (zEs s fr n) s' := by
 refine ⟨h.rd, ?_, h.lg, h.lq, fun i hi => ?_, h.g, h.q⟩
 ·show (s.wants.set _ _).length = _
  rw [List.length_set, h.lw]
 ·show (s.wants.set _ _).getD i 0 = _
  rw [zEl, if_neg (fun e => by rw [e.1, hi] at hn; cases hn), h.w i hi]
theorem BkQ.wantR {x : Nat} {s s' : BkS} (h : BkQ x s s') (fr : Nat) (n : Int) (hn : x.testBit fr = false) : BkQ x s (zEs s' fr n) := by
 refine ⟨h.rd, ?_, h.lg, h.lq, fun i hi => ?_, h.g, h.q⟩
 ·show _ = (s'.wants.set _ _).length
  rw [List.length_set, h.lw]
 ·show _ = (s'.wants.set _ _).getD i 0
  rw [zEl, if_neg (fun e => by rw [e.1, hi] at hn; cases hn), h.w i hi]
theorem zSk (s : BkS) : ∀ k, (rnd s k).round = s.round
 | 0 => rfl
 | k + 1 => zSk s k
theorem zWs (most ticks : Int) (s : BkS) : (zBj most ticks s).1.round = s.round + 1 := by
 unfold zBj
 dsimp only
 rw [zSk]
theorem BkQ.round {x : Nat} {s s' : BkS} (h : BkQ x s s') (most ticks : Int) (hr : s.round % ticks = 0 → s.reserve = s'.reserve) :
    BkQ x (zBj most ticks s).1 (zBj most ticks s').1 ∧ (zBj most ticks s).2.2 = (zBj most ticks s').2.2 ∧ ∀ i : Nat, x.testBit i = true → (zBj most ticks s).2.1.getD i 0 = (zBj most ticks s').2.1.getD i 0 := by
 have key : BkQ x (zBj most ticks s).1 (zBj most ticks s').1 := by
  unfold zBj
  dsimp only
  rw [← h.rd, ← h.lw]
  by_cases h0 : s.round % ticks = 0
  ·rw [if_pos h0, if_pos h0]
   have h2 : BkQ x ({ zFc most s with round := s.round + 1 } : BkS) ({ zFc most s' with round := s.round + 1 } : BkS) := by
    have e : (zFc most s).quota = (zFc most s').quota := by
     show gives _ _ = gives _ _
     rw [hr h0, h.lw]
    exact ⟨rfl, h.lw, h.lg, by show (zFc most s).quota.length = (zFc most s').quota.length; rw [e], h.w, h.g, fun i _ => by show (zFc most s).quota.getD i 0 = (zFc most s').quota.getD i 0; rw [e]⟩
   exact h2.rnd _
  ·rw [if_neg h0, if_neg h0]
   have h2 : BkQ x ({ s with round := s.round + 1 } : BkS) ({ s' with round := s.round + 1 } : BkS) := ⟨rfl, h.lw, h.lg, h.lq, h.w, h.g, h.q⟩
   exact h2.rnd _
 refine ⟨key, ?_, fun i hi => key.g i hi⟩
 show (if s.round % ticks = 0 then s.reserve else -1) = (if s'.round % ticks = 0 then s'.reserve else -1)
 rw [← h.rd]
 by_cases h0 : s.round % ticks = 0
 ·rw [if_pos h0, if_pos h0, hr h0]
 ·rw [if_neg h0, if_neg h0]
def tch (c : Cfg) (x l : Nat) : Prop := ∃ i : Nat, i < c.n ∧ x.testBit i = true ∧ (c.la.zs.getD l 0).toNat.testBit i = true
def GoodR (c : Cfg) (R : List (List Ent)) : Prop := R.length = c.ln ∧ (∀ l ∈ R, mayP l = true) ∧ ∀ l ∈ R, ∀ e ∈ l, zGu e
structure zPm (c : Cfg) (x : Nat) (p p' : PoD) : Prop where
 fr : p.fr = p'.fr
 to_ : p.to_ = p'.to_
 len : p.data.length = p'.data.length
 same : (p.fr < c.n ∧ x.testBit p.fr.toNat = true) ∨ (p.to_ < c.n ∧ x.testBit p.to_.toNat = true) → p.data = p'.data
 rum : p.fr < c.n → p.to_ < c.n → ∃ R R', p.data = (zAv c p.fr p.to_ R).1 ∧ p'.data = (zAv c p.fr p.to_ R').1 ∧ GoodR c R ∧ GoodR c R' ∧ ∀ l, tch c x l → R.getD l [] = R'.getD l []
structure Rel (c : Cfg) (x : Nat) (S S' : WS) : Prop where
 sh : ∀ i k, x.testBit i = true → S.sh i k = S'.sh i k
 ask : ∀ i, x.testBit i = true → S.ask i = S'.ask i
 gn : ∀ i, x.testBit i = true → S.gn i = S'.gn i
 st : ∀ i l, tch c x l → (S.st i).getD l [] = (S'.st i).getD l []
 bk : ∀ j, j < c.m → BkQ x (S.bk j) (S'.bk j)
 r0 : ∀ j, j < c.m → (S.bk j).round = 0 → (S.bk j).reserve = (S'.bk j).reserve
 lts : All2 (zPm c x) S.lts S'.lts
 top : S.top = S'.top
 lost : S.lost = S'.lost
theorem zQf (a b : Nat) : ∀ (ls : List Int) (i k : Nat), k ∈ zAn a b ls i ↔ i ≤ k ∧ k < i + ls.length ∧ (ls.getD (k - i) 0).toNat.testBit a = true ∧ (ls.getD (k - i) 0).toNat.testBit b = true
 | [], i, k => by
  simp only [zAn, List.not_mem_nil, List.length_nil, false_iff]
  omega
 | z :: ls, i, k => by
  have ih := zQf a b ls (i + 1) k
  unfold zAn
  have key : (k ∈ zAn a b ls (i + 1)) ↔ (i < k ∧ k < i + (z :: ls).length ∧ ((z :: ls).getD (k - i) 0).toNat.testBit a = true ∧ ((z :: ls).getD (k - i) 0).toNat.testBit b = true) := by
   rw [ih, List.length_cons]
   constructor
   ·rintro ⟨h1, h2, h3⟩
    have e : k - i = (k - (i + 1)) + 1 := by omega
    rw [e, List.getD_cons_succ]
    exact ⟨by omega, by omega, h3⟩
   ·rintro ⟨h1, h2, h3⟩
    have e : k - i = (k - (i + 1)) + 1 := by omega
    rw [e, List.getD_cons_succ] at h3
    exact ⟨by omega, by omega, h3⟩
  by_cases hz : (z.toNat.testBit a && z.toNat.testBit b) = true
  ·rw [if_pos hz, List.mem_cons, key]
   rw [Bool.and_eq_true] at hz
   constructor
   ·rintro (rfl | ⟨h1, h2⟩)
    ·rw [Nat.sub_self, List.getD_cons_zero]
     exact ⟨Nat.le_refl _, by simp, hz⟩
    ·exact ⟨by omega, h2⟩
   ·rintro ⟨h1, h2⟩
    by_cases e : k = i
    ·exact .inl e
    ·exact .inr ⟨by omega, h2⟩
  ·rw [if_neg hz, key]
   constructor
   ·rintro ⟨h1, h2⟩
    exact ⟨by omega, h2⟩
   ·rintro ⟨h1, h2⟩
    refine ⟨?_, h2⟩
    by_cases e : k = i
    ·exfalso
     subst e
     rw [Nat.sub_self, List.getD_cons_zero] at h2
     exact hz (by rw [Bool.and_eq_true]; exact h2.2)
    ·omega
theorem zNr {α β : Type} : ∀ (l : List α) (f g : α → List β), (∀ a ∈ l, f a = g a) → l.flatMap f = l.flatMap g
 | [], _, _, _ => rfl
 | a :: l, f, g, h => by
  rw [List.flatMap_cons, List.flatMap_cons, h a (by simp), zNr l f g fun b hb => h b (by simp [hb])]
theorem zVo {c : Cfg} {x : Nat} {a b : Nat} {R R' : List (List Ent)} (hcf : zAh c = true) (ha : a < c.n) (hb : b < c.n) (hR : GoodR c R) (hR' : GoodR c R') (h : ∀ l, tch c x l → R.getD l [] = R'.getD l []) :
    (zAv c a b R).1.length = (zAv c a b R').1.length ∧ (x.testBit a = true ∨ x.testBit b = true → (zAv c a b R).1 = (zAv c a b R').1) := by
 obtain ⟨⟨hn, _⟩, _⟩ := zAj hcf
 have e1 := (zGh (a := a) (b := b) hcf (by omega) (by omega) hR.1 hR.2.1 hR.2.2).1
 have e2 := (zGh (a := a) (b := b) hcf (by omega) (by omega) hR'.1 hR'.2.1 hR'.2.2).1
 rw [e1, e2]
 dsimp only
 refine ⟨by simp [bytesOf], fun hx => ?_⟩
 congr 2
 unfold zCv
 refine zNr _ _ _ fun i hi => ?_
 have hm := (zQf _ _ c.la.zs 0 i).1 hi
 rw [Nat.sub_zero] at hm
 rw [h i (by
  rcases hx with hx | hx
  ·exact ⟨a, ha, hx, hm.2.2.1⟩
  ·exact ⟨b, hb, hx, hm.2.2.2⟩)]
theorem zIi (R : List (List Ent)) : ∀ (k : Nat) (q : List (List Ent)) (l : Nat), (zEa R k q).length = q.length ∧ (zEa R k q).getD l [] = if l < k ∧ l < q.length then (zCz (q.getD l []) (R.getD l [])).1 else q.getD l []
 | 0, q, l => ⟨rfl, by rw [if_neg (by omega)]; rfl⟩
 | k + 1, q, l => by
  obtain ⟨h1, h2⟩ := zIi R k q l
  obtain ⟨_, h3⟩ := zIi R k q k
  rw [if_neg (by omega)] at h3
  rw [zEa]
  refine ⟨by rw [List.length_set, h1], ?_⟩
  rw [h3, List.getD_eq_getElem?_getD, List.getElem?_set, h1]
  by_cases hkl : k = l
  ·subst hkl
   rw [if_pos rfl]
   by_cases hq : k < q.length
   ·rw [if_pos hq, if_pos ⟨by omega, hq⟩]; rfl
   ·rw [if_neg hq, if_neg (by omega), List.getD_eq_getElem?_getD, List.getElem?_eq_none (by omega)]
  ·rw [if_neg hkl, ← List.getD_eq_getElem?_getD, h2]
   by_cases h : l < k ∧ l < q.length
   ·rw [if_pos h, if_pos (by omega)]
   ·rw [if_neg h, if_neg (by omega)]
theorem zIw (i : Nat) (l : List Int) (S : WS) : ∀ k, (∀ j, j ≠ i → (zBa i l k S).sh j = S.sh j ∧ (zBa i l k S).gn j = S.gn j) ∧ ((zBa i l k S).ask = S.ask ∧ (zBa i l k S).st = S.st ∧ (zBa i l k S).bk = S.bk ∧ (zBa i l k S).lts = S.lts ∧ (zBa i l k S).top = S.top ∧ (zBa i l k S).lost = S.lost)
 | 0 => ⟨fun j _ => ⟨rfl, rfl⟩, rfl, rfl, rfl, rfl, rfl, rfl⟩
 | k + 1 => by
  obtain ⟨h1, h2, h3, h4, h5, h6, h7⟩ := zIw i l S k
  rw [zBa, gnAt]
  split
  ·refine ⟨fun j hj => ?_, h2, h3, h4, h5, h6, h7⟩
   dsimp only
   rw [zDl _ _ hj, zDl _ _ hj]
   exact h1 j hj
  ·exact ⟨h1, h2, h3, h4, h5, h6, h7⟩
theorem zPk (i : Nat) (l : List Int) (S S' : WS) (h1 : S.sh i = S'.sh i) (h2 : S.gn i = S'.gn i) : ∀ k, (zBa i l k S).sh i = (zBa i l k S').sh i ∧ (zBa i l k S).gn i = (zBa i l k S').gn i
 | 0 => ⟨h1, h2⟩
 | k + 1 => by
  obtain ⟨h3, h4⟩ := zPk i l S S' h1 h2 k
  rw [zBa, zBa, gnAt, gnAt, h4]
  split
  ·dsimp only
   rw [zDg, zDg, zDg, zDg, h3]
   exact ⟨rfl, rfl⟩
  ·exact ⟨h3, h4⟩
end
end Go.Proofs.YtbolcebmbpepdaaGreatDoor
