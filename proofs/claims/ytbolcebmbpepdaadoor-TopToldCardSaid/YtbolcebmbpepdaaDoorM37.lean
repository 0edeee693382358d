/- Contracts and plain facts, set together by program out of smaller texts. Conditions: none beyond what each theorem states. -/
import Derived.Test.YtbolcebmbpepdaaDoorM34
import Derived.Test.YtbolcebmbpepdaaDoorM36
import Derived.Test.YtbolcebmbpepdaaDoorM33
namespace Go.Proofs.YtbolcebmbpepdaaDoor
set_option linter.unusedVariables false
section
open Go.RowKit
theorem newer_time (a b : Ent) : (newerP a b = true → b.time ≤ a.time) ∧ (newerP a b = false → a.time ≤ b.time) := by
  unfold newerP newerL orP cmpP
  by_cases h1 : a.time < b.time
  · rw [if_pos h1, if_pos (by omega)]
    exact ⟨fun h => by simp at h, fun _ => by omega⟩
  · rw [if_neg h1]
    by_cases h2 : b.time < a.time
    · rw [if_pos h2, if_pos (by omega)]
      exact ⟨fun _ => by omega, fun h => by simp at h⟩
    · rw [if_neg h2]
      exact ⟨fun _ => by omega, fun _ => by omega⟩
theorem newer_lt {a b : Ent} (h : b.time < a.time) : newerP a b = true ∧ newerP b a = false := by
  constructor
  · cases hc : newerP a b with
    | true => rfl
    | false => have := (newer_time a b).2 hc; omega
  · cases hc : newerP b a with
    | false => rfl
    | true => have := (newer_time b a).1 hc; omega
theorem ins_cover (y : Ent) : ∀ (L : List Ent), (∀ e ∈ L, ∃ e' ∈ insE L y, e.time ≤ e'.time) ∧ ∃ e' ∈ insE L y, y.time ≤ e'.time
  | [] => ⟨fun e he => (by cases he), y, by simp [insE], Int.le_refl _⟩
  | x :: L => by
    obtain ⟨h1, e0, h2, h3⟩ := ins_cover y L
    unfold insE
    split
    · refine ⟨fun e he => ?_, e0, by simp [h2], h3⟩
      rcases List.mem_cons.1 he with rfl | he
      · exact ⟨e, by simp, Int.le_refl _⟩
      · obtain ⟨e', a, b⟩ := h1 e he
        exact ⟨e', by simp [a], b⟩
    split
    · exact ⟨fun e he => ⟨e, List.mem_cons_of_mem _ he, Int.le_refl _⟩, y, List.mem_cons_self .., Int.le_refl _⟩
    · by_cases hn : newerP y x = true
      · rw [if_pos hn]
        refine ⟨fun e he => ?_, y, by simp, Int.le_refl _⟩
        rcases List.mem_cons.1 he with rfl | he
        · exact ⟨y, by simp, (newer_time y e).1 hn⟩
        · exact ⟨e, by simp [he], Int.le_refl _⟩
      · rw [if_neg hn]
        exact ⟨fun e he => ⟨e, he, Int.le_refl _⟩, x, by simp, (newer_time y x).2 (by simpa using hn)⟩
theorem fold_cover : ∀ (b a : List Ent), (∀ e ∈ a, ∃ e' ∈ b.foldl insE a, e.time ≤ e'.time) ∧ ∀ e ∈ b, ∃ e' ∈ b.foldl insE a, e.time ≤ e'.time
  | [], a => ⟨fun e he => ⟨e, he, Int.le_refl _⟩, fun e he => by cases he⟩
  | y :: b, a => by
    obtain ⟨h1, h2⟩ := fold_cover b (insE a y)
    obtain ⟨i1, e0, i2, i3⟩ := ins_cover y a
    rw [List.foldl_cons]
    refine ⟨fun e he => ?_, fun e he => ?_⟩
    · obtain ⟨e', a1, a2⟩ := i1 e he
      obtain ⟨e2, b1, b2⟩ := h1 e' a1
      exact ⟨e2, b1, by omega⟩
    · rcases List.mem_cons.1 he with rfl | he
      · obtain ⟨e2, b1, b2⟩ := h1 e0 i2
        exact ⟨e2, b1, by omega⟩
      · exact h2 e he
/-- a newest entry stays, and comes in -/
theorem ins_has (z : Ent) (y : Ent) (hy : y = z ∨ y.time < z.time) : ∀ (L : List Ent), (∀ e ∈ L, e = z ∨ e.time < z.time) → (z ∈ L ∨ y = z) → z ∈ insE L y
  | [], _, h => by
    rcases h with h | h
    · cases h
    · simp [insE, h]
  | x :: L, hL, h => by
    have ih := ins_has z y hy L (fun e he => hL e (by simp [he]))
    unfold insE
    split
    · rename_i hlt
      rcases h with h | h
      · rcases List.mem_cons.1 h with rfl | h
        · simp
        · simp [ih (.inl h)]
      · simp [ih (.inr h)]
    split
    · rcases h with h | h
      · exact List.mem_cons_of_mem _ h
      · simp [h]
    · by_cases hn : newerP y x = true
      · rw [if_pos hn]
        rcases h with h | h
        · rcases List.mem_cons.1 h with rfl | h
          · rcases hy with rfl | hy
            · simp
            · rw [(newer_lt hy).2] at hn; cases hn
          · simp [h]
        · simp [h]
      · rw [if_neg hn]
        rcases h with h | h
        · exact h
        · rcases hL x (by simp) with e | e
          · simp [e]
          · rw [h, (newer_lt e).1] at hn; exact absurd rfl hn
theorem fold_has (z : Ent) : ∀ (b a : List Ent), (∀ e ∈ a, e = z ∨ e.time < z.time) → (∀ e ∈ b, e = z ∨ e.time < z.time) → (z ∈ a ∨ z ∈ b) → z ∈ b.foldl insE a
  | [], a, _, _, h => by
    rcases h with h | h
    · exact h
    · cases h
  | y :: b, a, ha, hb, h => by
    rw [List.foldl_cons]
    refine fold_has z b (insE a y) (fun e he => ?_) (fun e he => hb e (by simp [he])) ?_
    · rcases insE_mem a y e he with h1 | h1
      · exact ha e h1
      · rw [h1]; exact hb y (by simp)
    · rcases h with h | h
      · exact .inl (ins_has z y (hb y (by simp)) a ha (.inl h))
      · rcases List.mem_cons.1 h with h | h
        · exact .inl (ins_has z y (hb y (by simp)) a ha (.inr h.symm))
        · exact .inr h
theorem sorted_len : ∀ (l : List Ent) (lo : Int), lo ≤ 8 → SortedE l → (∀ e ∈ l, lo ≤ e.key ∧ e.key < 8) → (l.length : Int) ≤ 8 - lo
  | [], lo, h, _, _ => by simp; omega
  | x :: l, lo, h, hs, hk => by
    have h1 := List.pairwise_cons.1 hs
    have hx := hk x (by simp)
    have := sorted_len l (x.key + 1) (by omega) h1.2 (fun e he => ⟨by have := h1.1 e he; omega, (hk e (by simp [he])).2⟩)
    rw [List.length_cons]
    omega
def goodRow (l : List Ent) : Prop := mayP l = true ∧ ∀ e ∈ l, goodE e
theorem goodRow.key {l : List Ent} (h : goodRow l) : ∀ e ∈ l, 0 ≤ e.key ∧ e.key < 8 := fun e he => ⟨((mayP_facts h.1).2.1 e he).1, (h.2 e he).1⟩
theorem merge_eq {a b : List Ent} (ha : goodRow a) (hb : goodRow b) : (mergeP a b).1 = b.foldl insE a := by
  unfold mergeP
  rw [if_pos (by rw [ha.1, hb.1]; rfl)]
  obtain ⟨sa, ka, _, _⟩ := mayP_facts ha.1
  obtain ⟨sb, kb, _, _⟩ := mayP_facts hb.1
  have hf := fold_facts b kb a sa ka
  have hl := sorted_len _ 0 (by omega) hf.1 (fun e he => by
    rcases fold_mem b a e he with h | h
    · exact ha.key e h
    · exact hb.key e h)
  rw [if_neg (by omega)]
theorem merge_nil {a : List Ent} (ha : goodRow a) : (mergeP a []).1 = a := by
  rw [merge_eq ha ⟨rfl, fun e he => by cases he⟩]
  rfl
theorem row_goodRow {c : Cfg} {K : Int} {S : WS} (h : GoodW c K S) (i k : Nat) : goodRow ((S.st i).getD k []) :=
  ⟨getD_mem (P := fun l => mayP l = true) (h.st i).1.2.1 rfl k, fun e he => (row_good (h.st i) k e he).1⟩
section
variable {c : Cfg} {S : WS}
theorem rums4 (c : Cfg) (S : WS) (i : Nat) (hi : i < 4) : (rumsTo c S i 4).length = 3 := by
  unfold rumsTo
  rw [List.length_map]
  obtain h | h | h | h : i = 0 ∨ i = 1 ∨ i = 2 ∨ i = 3 := by omega
  all_goals subst h; decide
def framesW (c : Cfg) (S : WS) : List PoD := sendsTo c S.aged c.n ++ grantsTo c S c.n
theorem frames4 (hn : c.n = 4) : (framesW c S).length = 20 := by
  unfold framesW
  rw [List.length_append, grants_len]
  have h : (sendsTo c S.aged c.n).length = 16 := by
    unfold sendsTo
    rw [hn, show List.range 4 = [0, 1, 2, 3] from rfl]
    simp only [List.flatMap_cons, List.flatMap_nil, List.append_nil, List.length_append]
    unfold sendsOf
    rw [hn]
    simp only [List.length_cons, rums4 c _ 0 (by omega), rums4 c _ 1 (by omega), rums4 c _ 2 (by omega), rums4 c _ 3 (by omega)]
  rw [h, hn]
theorem come_lts (p : PoD) : (comeW c S p).lts = S.lts ∧ (comeW c S p).top = S.top ∧ (comeW c S p).lost = S.lost := by
  unfold comeW
  split
  · exact ⟨rfl, rfl, rfl⟩
  split
  · obtain ⟨_, e2, e3, e4⟩ := gains_lts p.to_.toNat (askedP c p.data).1 (askedP c p.data).1.length S
    exact ⟨e2, e3, e4⟩
  · exact ⟨rfl, rfl, rfl⟩
theorem come_st (p : PoD) : (comeW c S p).st = if p.to_ = c.br ∨ p.fr = c.br then S.st else upd1 S.st p.to_.toNat (learnsL (heardP c p.fr p.to_ p.data).1 (heardP c p.fr p.to_ p.data).1.length (S.st p.to_.toNat)) := by
  unfold comeW
  split
  · rename_i h; rw [if_pos (.inl h)]; rfl
  split
  · rename_i h1 h2
    rw [if_pos (.inr h2)]
    exact (gains_lts p.to_.toNat (askedP c p.data).1 (askedP c p.data).1.length S).1
  · rename_i h1 h2
    rw [if_neg (by rintro (h | h); exact h1 h; exact h2 h)]
    rfl
theorem deliver_lts (id : Int) : (deliverW c S id).2.lts = S.lts := by
  unfold deliverW
  split
  · rfl
  split
  · rfl
  split
  · rfl
  · exact (come_lts _).1
theorem step_lts (hn : c.n = 4) (s : StpI) : (stepW c S s).2.lts.length = S.lts.length + (if s.kind = 9 then 20 else 0) := by
  unfold stepW
  split
  · show (S.lts ++ framesW c S).length = _
    rw [List.length_append, frames4 hn]
  rw [Nat.add_zero]
  split
  · rw [deliver_lts]
  split
  · split <;> rfl
  split
  · rfl
  split
  · rfl
  unfold clientW
  split
  · unfold entryW
    split
    · rfl
    split
    · rfl
    split
    · rfl
    split <;> rfl
  split
  · rfl
  split
  · split
    · rfl
    split <;> rfl
  · rfl
theorem run_lts (hn : c.n = 4) : ∀ (l : List StpI) (S : WS), (runW c l S).2.lts.length = S.lts.length + framesN l
  | [], S => rfl
  | s :: l, S => by
    show (runW c l (stepW c S s).2).2.lts.length = _
    rw [run_lts hn l, step_lts hn, framesN]
    omega
/-- behind the tick and j frames -/
def fullW (c : Cfg) (S : WS) (j : Nat) : WS := (runW c ((List.range j).map fun i : Nat => stpDel ((S.lts.length + i : Nat) : Int)) (tickW c S).2).2
theorem fullW_succ (c : Cfg) (S : WS) (j : Nat) : fullW c S (j + 1) = (deliverW c (fullW c S j) ((S.lts.length + j : Nat) : Int)).2 := by
  unfold fullW
  rw [List.range_succ, List.map_append, List.map_singleton, runW_snoc]
  rfl
theorem fullW_facts {K : Int} (h : GoodW c K S) (hS : ∀ p ∈ framesW c S, 0 ≤ p.to_) (hn : c.n = 4) : ∀ j, j ≤ 20 → (fullW c S j).lts = S.lts ++ framesW c S ∧ (∀ f t, (fullW c S j).top f t ≤ (S.lts.length + j : Nat)) ∧ (fullW c S j).lost = S.lost
  | 0, _ => ⟨rfl, fun f t => h.top f t, rfl⟩
  | j + 1, hj => by
    obtain ⟨h1, h2, h3⟩ := fullW_facts h hS hn j (by omega)
    have hfl := frames4 (S := S) hn
    obtain ⟨p, hp⟩ : ∃ p, (framesW c S)[j]? = some p := ⟨_, List.getElem?_eq_getElem (by omega)⟩
    have hpl : (fullW c S j).lts[S.lts.length + j]? = some p := by rw [h1, List.getElem?_append_right (by omega), show S.lts.length + j - S.lts.length = j by omega]; exact hp
    have hpt := hS p (List.mem_of_getElem? hp)
    have hto : (fullW c S j).to_ ((S.lts.length + j : Nat) : Int) = p.to_ := by
      unfold WS.to_ toP
      rw [if_neg (by omega), Int.toNat_natCast, hpl]
    have hd : dueW (fullW c S j) ((S.lts.length + j : Nat) : Int) = 0 := by
      unfold dueW
      rw [hto, if_neg (by omega), Int.toNat_natCast, hpl]
      dsimp only
      have e1 : (fullW c S j).lost ((S.lts.length + j : Nat) : Int) = false := by
        cases hc : (fullW c S j).lost ((S.lts.length + j : Nat) : Int) with
        | false => rfl
        | true =>
          rw [h3] at hc
          have := h.lost _ hc
          omega
      have e2 := h2 p.fr p.to_
      rw [e1, if_neg]
      simp only [Bool.false_or, decide_eq_true_eq]
      omega
    have hD : (deliverW c (fullW c S j) ((S.lts.length + j : Nat) : Int)).2 = comeW c ((fullW c S j).opened p ((S.lts.length + j : Nat) : Int)) p := by
      unfold deliverW
      rw [if_neg (by rw [hd]; decide), Int.toNat_natCast, hpl]
      dsimp only
      rw [if_neg (by rw [hd]; decide)]
    rw [fullW_succ, hD]
    obtain ⟨c1, c2, c3⟩ := come_lts (c := c) (S := (fullW c S j).opened p ((S.lts.length + j : Nat) : Int)) p
    refine ⟨c1.trans h1, fun f t => ?_, c3.trans h3⟩
    rw [c2]
    show (if f = p.fr ∧ t = p.to_ then ((S.lts.length + j : Nat) : Int) + 1 else (fullW c S j).top f t) ≤ _
    have := h2 f t
    split <;> omega
/-- the j-th frame, and what it does to the rows of label k -/
theorem fullW_row {K : Int} {N : Nat} (h : GoodW c K S) (hok : S.ok c N) (hcf : configP c = true) (hn : c.n = 4) (k j : Nat) (hk : k < c.ln) (hj : j < 20) (hGj : ∀ i, GoodR c ((fullW c S j).st i)) :
    (∀ i, ((fullW c S (j + 1)).st i).getD k [] = ((fullW c S j).st i).getD k [] ∨ ∃ a, a < 4 ∧ (c.la.zs.getD k 0).toNat.testBit a = true ∧ (c.la.zs.getD k 0).toNat.testBit i = true ∧ ((fullW c S (j + 1)).st i).getD k [] = (mergeP (((fullW c S j).st i).getD k []) ((S.st a).getD k [])).1) ∧
    ∀ a b : Nat, a < 4 → b < 4 → (framesW c S)[j]? = some ⟨(a : Int), (b : Int), (rumourP c a b (S.st a)).1⟩ → (c.la.zs.getD k 0).toNat.testBit a = true → (c.la.zs.getD k 0).toNat.testBit b = true →
      ((fullW c S (j + 1)).st b).getD k [] = (mergeP (((fullW c S j).st b).getD k []) ((S.st a).getD k [])).1 := by
  obtain ⟨⟨hbr, _⟩, _⟩ := config_facts hcf
  have hto : ∀ p ∈ framesW c S, 0 ≤ p.to_ := fun p hp => by
    rcases List.mem_append.1 hp with hp | hp
    · exact (sends_ok (Nat.le_refl _) p hp).2.1.1
    · exact (grants_ok (Nat.le_refl _) p hp).2.1.1
  obtain ⟨h1, h2, h3⟩ := fullW_facts h hto hn j (by omega)
  obtain ⟨q1, q2, q3⟩ := fullW_facts h hto hn (j + 1) (by omega)
  have hfl := frames4 (S := S) hn
  obtain ⟨p, hp⟩ : ∃ p, (framesW c S)[j]? = some p := ⟨_, List.getElem?_eq_getElem (by omega)⟩
  have hpl : (fullW c S j).lts[S.lts.length + j]? = some p := by rw [h1, List.getElem?_append_right (by omega), show S.lts.length + j - S.lts.length = j by omega]; exact hp
  have hpm := List.mem_of_getElem? hp
  have hpt := hto p hpm
  have hD : (fullW c S (j + 1)).st = (comeW c ((fullW c S j).opened p ((S.lts.length + j : Nat) : Int)) p).st := by
    rw [fullW_succ]
    have hto2 : (fullW c S j).to_ ((S.lts.length + j : Nat) : Int) = p.to_ := by
      unfold WS.to_ toP
      rw [if_neg (by omega), Int.toNat_natCast, hpl]
    have hd : dueW (fullW c S j) ((S.lts.length + j : Nat) : Int) = 0 := by
      unfold dueW
      rw [hto2, if_neg (by omega), Int.toNat_natCast, hpl]
      dsimp only
      have e1 : (fullW c S j).lost ((S.lts.length + j : Nat) : Int) = false := by
        cases hc : (fullW c S j).lost ((S.lts.length + j : Nat) : Int) with
        | false => rfl
        | true =>
          rw [h3] at hc
          have := h.lost _ hc
          omega
      have e2 := h2 p.fr p.to_
      rw [e1, if_neg]
      simp only [Bool.false_or, decide_eq_true_eq]
      omega
    unfold deliverW
    rw [if_neg (by rw [hd]; decide), Int.toNat_natCast, hpl]
    dsimp only
    rw [if_neg (by rw [hd]; decide)]
  rw [hD, come_st]
  have hop : ((fullW c S j).opened p ((S.lts.length + j : Nat) : Int)).st = (fullW c S j).st := rfl
  rw [hop]
  by_cases hb : p.to_ = c.br ∨ p.fr = c.br
  · rw [if_pos hb]
    refine ⟨fun i => .inl rfl, fun a b ha hb2 hab => ?_⟩
    rw [hp] at hab
    injection hab with hab
    rw [hab] at hb
    dsimp only at hb
    omega
  · rw [if_neg hb]
    -- a rumour
    obtain ⟨a, b, ha, hb2, rfl⟩ : ∃ a b : Nat, a < 4 ∧ b < 4 ∧ p = ⟨(a : Int), (b : Int), (rumourP c a b (S.st a)).1⟩ := by
      rcases List.mem_append.1 hpm with hp | hp
      · unfold sendsTo at hp
        obtain ⟨i, hi, hp⟩ := List.mem_flatMap.1 hp
        have hi4 := List.mem_range.1 hi
        rcases List.mem_cons.1 hp with rfl | hp
        · exact absurd (.inl hbr.symm) hb
        · unfold rumsTo at hp
          obtain ⟨b, hb3, rfl⟩ := List.mem_map.1 hp
          have hb4 := List.mem_range.1 (List.mem_filter.1 hb3).1
          exact ⟨i, b, by omega, by omega, rfl⟩
      · unfold grantsTo at hp
        obtain ⟨i, hi, rfl⟩ := List.mem_map.1 hp
        exact absurd (.inr hbr.symm) hb
    dsimp only
    have hRa := h.st a
    have ht := (rumour_tells (a := (a : Int)) (b := (b : Int)) hcf (by omega) (by omega) hRa.1.1 hRa.1.2.1 hRa.1.2.2).2
    rw [ht]
    dsimp only
    rw [Int.toNat_natCast]
    have hHl : (heardR c a b (S.st a)).length = c.ln := by unfold heardR; simp [Cfg.ln]
    have hlg := learnsL_get (heardR c a b (S.st a)) (heardR c a b (S.st a)).length ((fullW c S j).st b) k
    rw [hHl, (hGj b).1, if_pos ⟨hk, hk⟩] at hlg
    have hHk : (heardR c a b (S.st a)).getD k [] = if (c.la.zs.getD k 0).toNat.testBit a = true ∧ (c.la.zs.getD k 0).toNat.testBit b = true then (S.st a).getD k [] else [] := by
      unfold heardR
      rw [List.getD_eq_getElem?_getD, List.getElem?_map, List.getElem?_range (by unfold Cfg.ln at hk; exact hk)]
      simp only [Option.map_some, Option.getD_some, Int.toNat_natCast]
      by_cases hm : k ∈ bothGo a b c.la.zs 0
      · have hm2 := (mem_bothGo a b c.la.zs 0 k).1 hm
        rw [Nat.sub_zero] at hm2
        rw [if_pos hm, if_pos hm2.2.2]
      · rw [if_neg hm, if_neg (fun e => hm ((mem_bothGo a b c.la.zs 0 k).2 ⟨Nat.zero_le _, by unfold Cfg.ln at hk; omega, by rw [Nat.sub_zero]; exact e⟩))]
    have hgr : goodRow (((fullW c S j).st b).getD k []) := ⟨getD_mem (P := fun l => mayP l = true) (hGj b).2.1 rfl k, fun e he => getD_mem (P := fun l => ∀ e ∈ l, goodE e) (hGj b).2.2 (fun e he => by cases he) k e he⟩
    have hlg2 := hlg.2
    rw [hHk, hHl.symm] at hlg2
    refine ⟨fun i => ?_, fun a' b' ha' hb' hab h4 h5 => ?_⟩
    · rw [upd1_if]
      by_cases hib : i = b
      · subst hib
        rw [if_pos rfl, hlg2]
        by_cases hm : (c.la.zs.getD k 0).toNat.testBit a = true ∧ (c.la.zs.getD k 0).toNat.testBit i = true
        · rw [if_pos hm]
          exact .inr ⟨a, ha, hm.1, hm.2, rfl⟩
        · rw [if_neg hm, merge_nil hgr]
          exact .inl rfl
      · rw [if_neg hib]
        exact .inl rfl
    · rw [hp] at hab
      injection hab with hab
      injection hab with e1 e2 _
      have e1' : a = a' := by omega
      have e2' : b = b' := by omega
      subst e1'
      subst e2'
      rw [upd1_at, hlg2, if_pos ⟨h4, h5⟩]
end
end
section
open Go.RowKit
def inL (c : Cfg) (k i : Nat) : Prop := (c.la.zs.getD k 0).toNat.testBit i = true
section
variable {c : Cfg} {S : WS} {N : Nat}
theorem full_good (h : GoodW c N S) (hok : S.ok c N) (hcf : configP c = true) (j : Nat) : GoodW c ((N + (j + 1) : Nat) : Int) (fullW c S j) ∧ (fullW c S j).ok c (N + (j + 1)) := by
  have e : stepW c S stpTick = tickW c S := if_pos rfl
  have := run_good hcf (stpTick :: (List.range j).map fun i : Nat => stpDel ((S.lts.length + i : Nat) : Int)) S N h hok
  rw [List.length_cons, List.length_map, List.length_range, runW, e] at this
  exact this
theorem frame_at (hn : c.n = 4) (a b : Nat) (ha : a < 4) (hb : b < 4) (hab : a ≠ b) : ∃ j, j < 20 ∧ (framesW c S)[j]? = some ⟨(a : Int), (b : Int), (rumourP c a b (S.st a)).1⟩ := by
  have hm : (⟨(a : Int), (b : Int), (rumourP c a b (S.st a)).1⟩ : PoD) ∈ framesW c S := by
    unfold framesW
    refine List.mem_append_left _ ?_
    unfold sendsTo
    refine List.mem_flatMap.2 ⟨a, List.mem_range.2 (by omega), ?_⟩
    unfold sendsOf
    refine List.mem_cons_of_mem _ ?_
    unfold rumsTo
    refine List.mem_map.2 ⟨b, List.mem_filter.2 ⟨List.mem_range.2 (by omega), ?_⟩, rfl⟩
    simp
    omega
  obtain ⟨j, hj, e⟩ := List.getElem_of_mem hm
  have := frames4 (S := S) hn
  exact ⟨j, by omega, by rw [List.getElem?_eq_getElem hj, e]⟩
/-- nothing new comes about -/
theorem up_full (h : GoodW c N S) (hok : S.ok c N) (hcf : configP c = true) (hn : c.n = 4) (k : Nat) (hk : k < c.ln) : ∀ j, j ≤ 20 → ∀ i, i < 4 → inL c k i → ∀ e ∈ ((fullW c S j).st i).getD k [], ∃ a, a < 4 ∧ inL c k a ∧ e ∈ (S.st a).getD k []
  | 0, _, i, h4, hi, e, he => ⟨i, h4, hi, he⟩
  | j + 1, hj, i, h4, hi, e, he => by
    rcases (fullW_row h hok hcf hn k j hk (by omega) (fun i => ((full_good h hok hcf j).1.st i).1)).1 i with e1 | ⟨a, ha, hma, _, e1⟩
    · rw [e1] at he
      exact up_full h hok hcf hn k hk j (by omega) i h4 hi e he
    · rw [e1] at he
      rcases merge_mem he with he | he
      · exact up_full h hok hcf hn k hk j (by omega) i h4 hi e he
      · exact ⟨a, ha, hma, he⟩
theorem row_merge (h : GoodW c N S) (hok : S.ok c N) (hcf : configP c = true) (k j i a : Nat) : (mergeP (((fullW c S j).st i).getD k []) ((S.st a).getD k [])).1 = ((S.st a).getD k []).foldl insE (((fullW c S j).st i).getD k []) :=
  merge_eq (row_goodRow (full_good h hok hcf j).1 i k) (row_goodRow h a k)
theorem cover_more (h : GoodW c N S) (hok : S.ok c N) (hcf : configP c = true) (hn : c.n = 4) (k : Nat) (hk : k < c.ln) (i j : Nat) : ∀ d, j + d ≤ 20 → ∀ e ∈ ((fullW c S j).st i).getD k [], ∃ e' ∈ ((fullW c S (j + d)).st i).getD k [], e.time ≤ e'.time
  | 0, _, e, he => ⟨e, he, Int.le_refl _⟩
  | d + 1, hd, e, he => by
    obtain ⟨e1, h1, h2⟩ := cover_more h hok hcf hn k hk i j d (by omega) e he
    rw [← Nat.add_assoc]
    rcases (fullW_row h hok hcf hn k (j + d) hk (by omega) (fun i => ((full_good h hok hcf (j + d)).1.st i).1)).1 i with e2 | ⟨a, ha, hma, _, e2⟩
    · rw [e2]
      exact ⟨e1, h1, h2⟩
    · rw [e2, row_merge h hok hcf]
      obtain ⟨e3, h3, h4⟩ := (fold_cover ((S.st a).getD k []) _).1 e1 h1
      exact ⟨e3, h3, by omega⟩
theorem has_more (h : GoodW c N S) (hok : S.ok c N) (hcf : configP c = true) (hn : c.n = 4) (k : Nat) (hk : k < c.ln) (z : Ent) (hz : ∀ a, a < 4 → inL c k a → ∀ e ∈ (S.st a).getD k [], e = z ∨ e.time < z.time) (i j : Nat) (h4 : i < 4) (hi : inL c k i) (hj : z ∈ ((fullW c S j).st i).getD k []) : ∀ d, j + d ≤ 20 → z ∈ ((fullW c S (j + d)).st i).getD k []
  | 0, _ => hj
  | d + 1, hd => by
    have ih := has_more h hok hcf hn k hk z hz i j h4 hi hj d (by omega)
    rw [← Nat.add_assoc]
    rcases (fullW_row h hok hcf hn k (j + d) hk (by omega) (fun i => ((full_good h hok hcf (j + d)).1.st i).1)).1 i with e2 | ⟨a, ha, hma, _, e2⟩
    · rw [e2]
      exact ih
    · rw [e2, row_merge h hok hcf]
      refine fold_has z _ _ (fun e he => ?_) (hz a ha hma) (.inl ih)
      obtain ⟨b, hb, hmb, he2⟩ := up_full h hok hcf hn k hk (j + d) (by omega) i h4 hi e he
      exact hz b hb hmb e he2
theorem lo_full (h : GoodW c N S) (hok : S.ok c N) (hcf : configP c = true) (hn : c.n = 4) (k : Nat) (hk : k < c.ln) (a b : Nat) (ha : a < 4) (hb : b < 4) (hma : inL c k a) (hmb : inL c k b) (e : Ent) (he : e ∈ (S.st a).getD k []) : ∃ e' ∈ ((fullW c S 20).st b).getD k [], e.time ≤ e'.time := by
  by_cases hab : a = b
  · subst hab
    have := cover_more h hok hcf hn k hk a 0 20 (by omega) e he
    rwa [Nat.zero_add] at this
  · obtain ⟨j, hj, hf⟩ := frame_at (S := S) hn a b ha hb hab
    have e2 := (fullW_row h hok hcf hn k j hk hj (fun i => ((full_good h hok hcf j).1.st i).1)).2 a b ha hb hf hma hmb
    rw [row_merge h hok hcf] at e2
    obtain ⟨e3, h3, h4⟩ := (fold_cover ((S.st a).getD k []) (((fullW c S j).st b).getD k [])).2 e he
    rw [← e2] at h3
    obtain ⟨e4, h5, h6⟩ := cover_more h hok hcf hn k hk b (j + 1) (20 - (j + 1)) (by omega) e3 h3
    rw [show j + 1 + (20 - (j + 1)) = 20 by omega] at h5
    exact ⟨e4, h5, by omega⟩
theorem has_full (h : GoodW c N S) (hok : S.ok c N) (hcf : configP c = true) (hn : c.n = 4) (k : Nat) (hk : k < c.ln) (z : Ent) (hz : ∀ a, a < 4 → inL c k a → ∀ e ∈ (S.st a).getD k [], e = z ∨ e.time < z.time) (a b : Nat) (ha : a < 4) (hb : b < 4) (hma : inL c k a) (hmb : inL c k b) (he : z ∈ (S.st a).getD k []) : z ∈ ((fullW c S 20).st b).getD k [] := by
  by_cases hab : a = b
  · subst hab
    have := has_more h hok hcf hn k hk z hz a 0 ha hma he 20 (by omega)
    rwa [Nat.zero_add] at this
  · obtain ⟨j, hj, hf⟩ := frame_at (S := S) hn a b ha hb hab
    have e2 := (fullW_row h hok hcf hn k j hk hj (fun i => ((full_good h hok hcf j).1.st i).1)).2 a b ha hb hf hma hmb
    rw [row_merge h hok hcf] at e2
    have h3 : z ∈ ((fullW c S (j + 1)).st b).getD k [] := by
      rw [e2]
      refine fold_has z _ _ (fun e he => ?_) (hz a ha hma) (.inr he)
      obtain ⟨a2, ha2, hm2, he2⟩ := up_full h hok hcf hn k hk j (by omega) b hb hmb e he
      exact hz a2 ha2 hm2 e he2
    have := has_more h hok hcf hn k hk z hz b (j + 1) hb hmb h3 (20 - (j + 1)) (by omega)
    rwa [show j + 1 + (20 - (j + 1)) = 20 by omega] at this
end
theorem timeL_le : ∀ (L : List Ent) (t K : Int), t ≤ K → (∀ e ∈ L, e.time ≤ K) → timeL L t ≤ K
  | [], t, K, h, _ => h
  | x :: L, t, K, h, hL => timeL_le L (max t x.time) K (by have := hL x (by simp); omega) (fun e he => hL e (by simp [he]))
theorem le_timeL : ∀ (L : List Ent) (t : Int), t ≤ timeL L t ∧ ∀ e ∈ L, e.time ≤ timeL L t
  | [], t => ⟨Int.le_refl _, fun e he => by cases he⟩
  | x :: L, t => by
    obtain ⟨h1, h2⟩ := le_timeL L (max t x.time)
    have e : timeL (x :: L) t = timeL L (max t x.time) := rfl
    rw [e]
    refine ⟨by omega, fun y hy => ?_⟩
    rcases List.mem_cons.1 hy with rfl | hy
    · omega
    · exact h2 y hy
theorem findE_sorted {z : Ent} : ∀ {l : List Ent}, SortedE l → z ∈ l → findE l z.key = (z, !z.gone)
  | [], _, h => by cases h
  | x :: l, hs, h => by
    have h1 := List.pairwise_cons.1 hs
    rcases List.mem_cons.1 h with rfl | h
    · unfold findE
      rw [if_pos rfl]
    · unfold findE
      rw [if_neg (by have := h1.1 z h; omega)]
      exact findE_sorted h1.2 h
theorem runW_append (c : Cfg) : ∀ (a b : List StpI) (S : WS), (runW c (a ++ b) S).2 = (runW c b (runW c a S).2).2
  | [], b, S => rfl
  | s :: a, b, S => by
    rw [List.cons_append, runW, runW]
    exact runW_append c a b _
theorem full_run {c : Cfg} (hn : c.n = 4) (l : List StpI) : (runW c (fullP l) (WS.new c)).2 = fullW c (runW c l (WS.new c)).2 20 := by
  have e : stepW c (runW c l (WS.new c)).2 stpTick = tickW c (runW c l (WS.new c)).2 := if_pos rfl
  have hL := run_lts hn l (WS.new c)
  have h0 : (WS.new c).lts.length = 0 := rfl
  rw [h0, Nat.zero_add] at hL
  unfold fullP fullTo fullW
  rw [runW_append, runW, e, hL]
def stpPut (w k : Nat) (key v : Int) : StpI := ⟨7, w, 0, v, 0, 0, k, key⟩
def stpGet (b k : Nat) (key : Int) : StpI := ⟨8, b, 0, 0, 0, 0, k, key⟩
theorem put_is {c : Cfg} {S : WS} (hbr : c.br = c.n) (w k : Nat) (key v : Int) (hw : w < c.n) (hk : k < c.ln) (hkey : 0 ≤ key ∧ key < 8) (hv : 0 ≤ v ∧ v ≤ 255) (hm : inL c k w) :
    (stepW c S (stpPut w k key v)).2 = { S with st := upd1 S.st w ((S.st w).set k (putE ((S.st w).getD k []) w key v false)) } := by
  unfold inL at hm
  unfold stepW stpPut
  dsimp only
  rw [if_neg (by decide), if_neg (by decide), if_neg (by decide), if_neg (by decide), if_neg (by omega)]
  unfold clientW
  dsimp only
  rw [if_pos (by decide)]
  unfold entryW
  dsimp only
  rw [if_neg (by omega), if_neg (by rw [Int.toNat_natCast, Int.toNat_natCast, hm]; decide), if_pos (by decide), Int.toNat_natCast, Int.toNat_natCast]
theorem get_is {c : Cfg} {S : WS} (hbr : c.br = c.n) (b k : Nat) (key : Int) (hw : b < c.n) (hk : k < c.ln) (hkey : 0 ≤ key ∧ key < 8) (hm : inL c k b) (z : Ent) (hz : findE ((S.st b).getD k []) key = (z, true)) :
    (stepW c S (stpGet b k key)).1 = ⟨0, b, Stk.none, z.value, [], [], []⟩ := by
  unfold inL at hm
  unfold stepW stpGet
  dsimp only
  rw [if_neg (by decide), if_neg (by decide), if_neg (by decide), if_neg (by decide), if_neg (by omega)]
  unfold clientW
  dsimp only
  rw [if_pos (by decide)]
  unfold entryW
  dsimp only
  rw [if_neg (by omega), if_neg (by rw [Int.toNat_natCast, Int.toNat_natCast, hm]; decide), if_neg (by decide), Int.toNat_natCast, Int.toNat_natCast, hz]
  rfl
def toldSteps (l : List StpI) (w b k : Nat) (key v : Int) : List StpI := fullP (fullP (fullP l) ++ [stpPut w k key v]) ++ [stpGet b k key]
theorem told_law {c : Cfg} (hcf : configP c = true) (hn : c.n = 4) (l : List StpI) (hl : l.length ≤ 80) (w b k : Nat) (key v : Int) (hw : w < 4) (hb : b < 4) (hk : k < c.ln) (hkey : 0 ≤ key ∧ key < 8) (hv : 0 ≤ v ∧ v ≤ 255) (hmw : inL c k w) (hmb : inL c k b) :
    ∃ ts, (runW c (toldSteps l w b k key v) (WS.new c)).1 = ts ++ [⟨0, b, Stk.none, v, [], [], []⟩] := by
  obtain ⟨⟨hbr, _⟩, _⟩ := config_facts hcf
  obtain ⟨S1, hS1⟩ : ∃ S, S = (runW c (fullP l) (WS.new c)).2 := ⟨_, rfl⟩
  obtain ⟨N1, hN1, hG1, hO1⟩ : ∃ N : Nat, N ≤ 101 ∧ GoodW c N S1 ∧ S1.ok c N := by
    have := run_good hcf (fullP l) (WS.new c) 0 new_good (new_okW hcf)
    rw [← hS1] at this
    refine ⟨_, ?_, this⟩
    unfold fullP
    rw [fullTo_len]
    omega
  obtain ⟨hG2, hO2⟩ := full_good hG1 hO1 hcf 20
  obtain ⟨S2, hS2⟩ : ∃ S, S = fullW c S1 20 := ⟨_, rfl⟩
  -- the newest time lies in w's row
  have hnew : ∀ a, a < 4 → inL c k a → ∀ e ∈ (S2.st a).getD k [], e.time ≤ timeL ((S2.st w).getD k []) 0 := fun a ha hma e he => by
    rw [hS2] at he ⊢
    obtain ⟨a2, ha2, hm2, he2⟩ := up_full hG1 hO1 hcf hn k hk 20 (Nat.le_refl _) a ha hma e he
    obtain ⟨e3, h3, h4⟩ := lo_full hG1 hO1 hcf hn k hk a2 w ha2 hw hm2 hmw e he2
    have := (le_timeL _ 0).2 e3 h3
    omega
  rw [← hS2] at hG2 hO2
  obtain ⟨T, hT⟩ : ∃ T, T = timeL ((S2.st w).getD k []) 0 := ⟨_, rfl⟩
  rw [← hT] at hnew
  have hT0 : 0 ≤ T := by rw [hT]; exact (le_timeL _ 0).1
  have hTK : T ≤ 200 := by
    rw [hT]
    exact timeL_le _ 0 200 (by omega) (fun e he => by have := (row_good (hG2.st w) k e he).2; omega)
  obtain ⟨z, hz⟩ : ∃ z : Ent, z = ⟨key, v, T + 1, w, false⟩ := ⟨_, rfl⟩
  have hgz : goodRow [z] := by
    refine ⟨?_, fun e he => ?_⟩
    · have : oneP z = true := by
        rw [hz]
        unfold oneP inP
        simp
        omega
      unfold mayP entsGo entsGo
      rw [this]
      rfl
    · rw [List.mem_singleton] at he
      rw [he, hz]
      exact ⟨hkey.2, hv.2⟩
  have hput : putE ((S2.st w).getD k []) w key v false = insE ((S2.st w).getD k []) z := by
    unfold putE
    rw [← hT, ← hz, merge_eq (row_goodRow hG2 w k) hgz]
    rfl
  obtain ⟨S3, hS3⟩ : ∃ S, S = (stepW c S2 (stpPut w k key v)).2 := ⟨_, rfl⟩
  have hS3e := put_is (S := S2) hbr w k key v (by omega) hk hkey hv hmw
  rw [← hS3, hput] at hS3e
  have hG3 := step_good hG2 (by omega) hO2 hcf (stpPut w k key v)
  have hO3 := step_ok hO2 hcf (stpPut w k key v)
  rw [← hS3] at hG3 hO3
  have hw3 : (S3.st w).getD k [] = insE ((S2.st w).getD k []) z := by
    rw [hS3e]
    dsimp only
    rw [upd1_at, List.getD_eq_getElem?_getD, List.getElem?_set_self (by rw [(hO2.st w).1]; exact hk)]
    rfl
  have ho3 : ∀ a, a ≠ w → (S3.st a).getD k [] = (S2.st a).getD k [] := fun a ha => by
    rw [hS3e]
    dsimp only
    rw [upd1_if, if_neg ha]
  have hold : ∀ a, a < 4 → inL c k a → ∀ e ∈ (S2.st a).getD k [], e = z ∨ e.time < z.time := fun a ha hma e he => by
    have := hnew a ha hma e he
    exact .inr (by rw [hz]; dsimp only; omega)
  have hz3 : ∀ a, a < 4 → inL c k a → ∀ e ∈ (S3.st a).getD k [], e = z ∨ e.time < z.time := fun a ha hma e he => by
    by_cases haw : a = w
    · subst haw
      rw [hw3] at he
      rcases insE_mem _ z e he with h1 | h1
      · exact hold a ha hma e h1
      · exact .inl h1
    · rw [ho3 a haw] at he
      exact hold a ha hma e he
  have hin3 : z ∈ (S3.st w).getD k [] := by
    rw [hw3]
    exact ins_has z z (.inl rfl) _ (hold w hw hmw) (.inr rfl)
  have hG3' : GoodW c ((N1 + (20 + 1) + 1 : Nat) : Int) S3 := hG3
  have hin4 := has_full hG3' hO3 hcf hn k hk z hz3 w b hw hb hmw hmb hin3
  have hG4 := (full_good hG3' hO3 hcf 20).1
  have hfind : findE (((fullW c S3 20).st b).getD k []) key = (z, true) := by
    have := findE_sorted (mayP_facts (row_goodRow hG4 b k).1).1 hin4
    rw [hz] at this ⊢
    exact this
  have hget := get_is (S := fullW c S3 20) hbr b k key (by omega) hk hkey hmb z hfind
  have hrun : (runW c (fullP (fullP (fullP l) ++ [stpPut w k key v])) (WS.new c)).2 = fullW c S3 20 := by
    rw [full_run hn, runW_snoc]
    dsimp only
    rw [full_run hn, ← hS1, ← hS2, ← hS3]
  unfold toldSteps
  have hzv : z.value = v := by rw [hz]
  rw [runW_snoc, hrun, hget, hzv]
  exact ⟨_, rfl⟩
end
section
open Go.RowKit
theorem has_apart {cs : Array Value} {o o' : Nat} {l l' : List Value} (h : Has cs o' l') (hd : o' + l'.length ≤ o ∨ o + l.length ≤ o') : Has (putAt cs o l) o' l' := by
  intro j u hj
  have hjl := (List.getElem?_eq_some_iff.1 hj).1
  rw [putAt_get, if_neg (by omega)]
  exact h j u hj
section
variable {w w' : World} {c : Cfg} {y : Lay} {S : WS} {K base : Nat} {ow : Nat → Tag}
theorem reOwn_old {t : Tag} {F : Nat → Bool} {k : Nat} (h : k < w.heap.size) : reOwn ow w w' t F k = ow k := by unfold reOwn; rw [if_pos h]
theorem reOwn_new {t : Tag} {F : Nat → Bool} {k : Nat} (h : w.heap.size ≤ k) (h' : k < w'.heap.size) (hF : F k = true) : reOwn ow w w' t F k = t := by unfold reOwn; rw [if_neg (by omega), if_pos ⟨h', hF⟩]
theorem reOwn_no {t : Tag} {F : Nat → Bool} {k : Nat} (h : w.heap.size ≤ k) (hF : F k = false) : reOwn ow w w' t F k = .no := by unfold reOwn; rw [if_neg (by omega), if_neg (by rw [hF]; simp)]
theorem PW.more {L : Nat} (h : PW w c y S K base ow) (hL : K ≤ L) : PW w c y S L base ow := by
  refine ⟨fun t => ?_, h.low, h.fresh, h.cfg, h.may, h.bw⟩
  have := h.pc t
  cases t with
  | off => obtain ⟨⟨v, ps, m, h1, h2, h3⟩, o1, o2⟩ := this; exact ⟨⟨v, ps, m, h1, Nat.le_trans h2 hL, h3⟩, o1, o2⟩
  | lst => obtain ⟨⟨m, h1, h2⟩, o⟩ := this; exact ⟨⟨m, h1, Nat.le_trans h2 hL⟩, o⟩
  | _ => exact this
/-- what a part's turning comes to -/
def Turned (w : World) (c : Cfg) (y : Lay) (S' : WS) (K base : Nat) (ow : Nat → Tag) (w' : World) : Prop := ∃ ow', PW w' c y S' K base ow' ∧ Kept w w' ow ow'
theorem Turned.refl (h : PW w c y S K base ow) : Turned w c y S K base ow w := ⟨ow, h, Kept.refl _ _⟩
theorem Turned.calm (h : PW w c y S K base ow) (hb : Below w.heap.size w w') : Turned w c y S K base ow w' := ⟨ow, h.calm hb, Kept.calm hb⟩
theorem Turned.after {w1 w2 : World} {S' : WS} {K' : Nat} {ow1 : Nat → Tag} (k : Kept w w1 ow ow1) (h : Turned w1 c y S' K' base ow1 w2) : Turned w c y S' K' base ow w2 := by
  obtain ⟨ow2, h1, h2⟩ := h
  exact ⟨ow2, h1, k.trans h2⟩
/-- an order at a branch's shelf -/
theorem shelfDoW_any (od : Ordr) (i k : Nat) (h : PW w c y S K base ow) (hi : i < c.n) (hk : k < c.m) (L : Int) (hs : (S.sh i k).ok L) (hL : L ≤ 1000000 - 1) :
    Calls Tryd.prog 32 #[.pointer (some ⟨(y.br i).s, k * 4, none⟩), od.val] w fun e w' => e = .returned ((S.sh i k).does od).2.val ∧ Turned w c y { S with sh := upd1 S.sh i (upd1 (S.sh i) k ((S.sh i k).does od).1) } K base ow w' := by
  obtain ⟨⟨cs, vs, h1, h2⟩, o⟩ := h.pc (.sh i) hi
  obtain ⟨ha, hv⟩ := h1 k hk
  refine (shelfDo_any base _ (k * 4) cs (S.sh i k) (vs k) w od L ha hs hL h.bw).mono ?_
  rintro e w' ⟨v', rfl, hx, ho, hf⟩
  have hD : ∀ b, b < w.heap.size → (b = (y.br i).s ∨ (vs k).ownBlock = some b) → ow b = .sh i := fun b hb hd => by
    rcases hd with rfl | hd
    · exact o
    · exact hv b hd
  refine ⟨rfl, _, h.turn (.sh i) (fun _ => true) (by simp) ho hD (fun u hu W own hp => ?_) ?_, Kept.turn _ _ (by simp) ho hD⟩
  · cases u with
    | sh j =>
      have hji : j ≠ i := fun e => hu (by rw [e])
      show j < c.n → ShRow W base (y.br j).s c.m (upd1 S.sh i _ j) own
      rw [upd1_ne _ _ hji]
      exact hp
    | _ => exact hp
  · intro _
    show ShRow w' base (y.br i).s c.m (upd1 S.sh i _ i) _
    rw [upd1_at]
    have hlen : ∀ (s : Shf) (v : Value), (s.cells v).length = 4 := fun _ _ => rfl
    have hvl : ∀ j, j < c.m → ∀ b, (vs j).ownBlock = some b → b < w.heap.size := fun j hj b hb => ((h1 j hj).1.own.lt b hb).2
    refine ⟨⟨putAt cs (k * 4) (((S.sh i k).does od).1.cells v'), upd1 vs k v', fun j hj => ?_, fun j j' hj hj' hne b hb => ?_⟩, by rw [reOwn_old ha.blk.lt]; exact o⟩
    · by_cases hjk : j = k
      · subst hjk
        rw [upd1_at, upd1_at]
        refine ⟨hx, fun b hb => ?_⟩
        rcases hf b hb with h3 | h3
        · rw [reOwn_old (hvl j hk b h3)]; exact hv b h3
        · exact reOwn_new h3 (hx.own.lt b hb).2 rfl
      · rw [upd1_ne _ _ hjk, upd1_ne _ _ hjk]
        obtain ⟨hb1, hb2⟩ := h1 j hj
        refine ⟨⟨hx.blk, has_apart hb1.has (by rw [hlen, hlen]; omega), own_only hb1.own ho fun b hb hd => ?_⟩, fun b hb => by rw [reOwn_old (hvl j hj b hb)]; exact hb2 b hb⟩
        rcases hd with rfl | hd
        · exact hb1.ne hb
        · exact h2 j k hj hk hjk b hb hd
    · by_cases hjk : j = k
      · subst hjk
        rw [upd1_at] at hb
        rw [upd1_ne _ _ (fun e => hne e.symm)]
        rcases hf b hb with h3 | h3
        · exact h2 j j' hj hj' hne b h3
        · exact fun e => by have := hvl j' hj' b e; omega
      · rw [upd1_ne _ _ hjk] at hb
        by_cases hjk' : j' = k
        · subst hjk'
          rw [upd1_at]
          intro e
          rcases hf b e with h3 | h3
          · exact h2 j j' hj hj' hne b hb h3
          · have := hvl j hj b hb; omega
        · rw [upd1_ne _ _ hjk']
          exact h2 j j' hj hj' hne b hb
/-- a number stored -/
theorem PW.setGn (h : PW w c y S K base ow) {i k : Nat} (hi : i < c.n) (hk : k < (S.gn i).length) (x : Int) : Turned w c y { S with gn := upd1 S.gn i ((S.gn i).set k x) } K base ow (w.setCell ⟨(y.br i).g, k, none⟩ (.int .i64 x)) := by
  have hr := h.pc (.gn i) hi
  have ho : Only (fun b => b = (y.br i).g) w (w.setCell ⟨(y.br i).g, k, none⟩ (.int .i64 x)) := only_put (Only.refl _ w) k _
  have hD : ∀ b, b < w.heap.size → b = (y.br i).g → ow b = .gn i := fun b _ e => by rw [e]; exact hr.o
  refine ⟨_, h.turn (.gn i) (fun _ => false) (by simp) ho hD (fun u hu W own hp => ?_) ?_, Kept.turn _ _ (by simp) ho hD⟩
  · cases u with
    | gn j =>
      have hji : j ≠ i := fun e => hu (by rw [e])
      show j < c.n → NumRow W base (y.br j).g (upd1 S.gn i _ j) own
      rw [upd1_ne _ _ hji]
      exact hp
    | _ => exact hp
  · intro _
    show NumRow _ base (y.br i).g (upd1 S.gn i _ i) _
    rw [upd1_at]
    exact ⟨IRow.set_ hr.row hk x, hr.low, by rw [reOwn_old (Blk.lt hr.row)]; exact hr.o⟩
theorem PW.setAsk (h : PW w c y S K base ow) {i k : Nat} (hi : i < c.n) (hk : k < (S.ask i).length) (x : Int) : Turned w c y { S with ask := upd1 S.ask i ((S.ask i).set k x) } K base ow (w.setCell ⟨(y.br i).a, k, none⟩ (.int .i64 x)) := by
  have hr := h.pc (.ask i) hi
  have ho : Only (fun b => b = (y.br i).a) w (w.setCell ⟨(y.br i).a, k, none⟩ (.int .i64 x)) := only_put (Only.refl _ w) k _
  have hD : ∀ b, b < w.heap.size → b = (y.br i).a → ow b = .ask i := fun b _ e => by rw [e]; exact hr.o
  refine ⟨_, h.turn (.ask i) (fun _ => false) (by simp) ho hD (fun u hu W own hp => ?_) ?_, Kept.turn _ _ (by simp) ho hD⟩
  · cases u with
    | ask j =>
      have hji : j ≠ i := fun e => hu (by rw [e])
      show j < c.n → NumRow W base (y.br j).a (upd1 S.ask i _ j) own
      rw [upd1_ne _ _ hji]
      exact hp
    | _ => exact hp
  · intro _
    show NumRow _ base (y.br i).a (upd1 S.ask i _ i) _
    rw [upd1_at]
    exact ⟨IRow.set_ hr.row hk x, hr.low, by rw [reOwn_old (Blk.lt hr.row)]; exact hr.o⟩
end
end
end Go.Proofs.YtbolcebmbpepdaaDoor
