/- Contracts and plain facts, set together by program out of smaller texts. Conditions: none beyond what each theorem states. -/
import Derived.Test.YtbolcebmbpepdaaGreatDoorM30
import Derived.Test.YtbolcebmbpepdaaGreatDoorM20
namespace Go.Proofs.YtbolcebmbpepdaaGreatDoor
set_option linter.unusedVariables false
section
open Go.RowKit
def timeOk (K : Int) (R : List (List Ent)) : Prop := ∀ l ∈ R, ∀ e ∈ l, e.time ≤ K
structure GoodW (c : Cfg) (K : Int) (S : WS) : Prop where
 st : ∀ i, GoodR c (S.st i) ∧ timeOk K (S.st i)
 lts : ∀ p ∈ S.lts, p.fr < c.n → p.to_ < c.n → ∃ R, GoodR c R ∧ timeOk K R ∧ p.data = (rumourP c p.fr p.to_ R).1
 top : ∀ f t, S.top f t ≤ S.lts.length
 lost : ∀ id, S.lost id = true → id < S.lts.length
theorem timeOk.mono {K L : Int} {R : List (List Ent)} (h : timeOk K R) (hL : K ≤ L) : timeOk L R := fun l hl e he => Int.le_trans (h l hl e he) hL
theorem GoodW.more {c : Cfg} {K L : Int} {S : WS} (h : GoodW c K S) (hL : K ≤ L) : GoodW c L S :=
 ⟨fun i => ⟨(h.st i).1, (h.st i).2.mono hL⟩, fun p hp h1 h2 => by
  obtain ⟨R, a, b, d⟩ := h.lts p hp h1 h2
  exact ⟨R, a, b.mono hL, d⟩, h.top, h.lost⟩
theorem merge_mem {a b : List Ent} {e : Ent} (h : e ∈ (mergeP a b).1) : e ∈ a ∨ e ∈ b := by
 unfold mergeP at h
 split at h
 ·split at h
  ·cases h
  ·exact fold_mem b a e h
 ·cases h
theorem GoodR.set_ {c : Cfg} {R : List (List Ent)} (h : GoodR c R) (k : Nat) {l : List Ent} (hm : mayP l = true) (hg : ∀ e ∈ l, goodE e) : GoodR c (R.set k l) := by
 refine ⟨by rw [List.length_set]; exact h.1, fun x hx => ?_, fun x hx => ?_⟩
 ·rcases List.mem_or_eq_of_mem_set hx with hx | rfl
  ·exact h.2.1 x hx
  ·exact hm
 ·rcases List.mem_or_eq_of_mem_set hx with hx | rfl
  ·exact h.2.2 x hx
  ·exact hg
theorem timeOk.set_ {K : Int} {R : List (List Ent)} (h : timeOk K R) (k : Nat) {l : List Ent} (hg : ∀ e ∈ l, e.time ≤ K) : timeOk K (R.set k l) := fun x hx => by
 rcases List.mem_or_eq_of_mem_set hx with hx | rfl
 ·exact h x hx
 ·exact hg
theorem row_good {c : Cfg} {K : Int} {R : List (List Ent)} (h : GoodR c R ∧ timeOk K R) (k : Nat) : ∀ e ∈ R.getD k [], goodE e ∧ e.time ≤ K :=
 getD_mem (P := fun l => ∀ e ∈ l, goodE e ∧ e.time ≤ K) (fun l hl e he => ⟨h.1.2.2 l hl e he, h.2 l hl e he⟩) (fun e he => by cases he) k
theorem learnsL_good {c : Cfg} {K : Int} {R : List (List Ent)} (hR : GoodR c R ∧ timeOk K R) : ∀ (k : Nat) (q : List (List Ent)), GoodR c q ∧ timeOk K q → GoodR c (learnsL R k q) ∧ timeOk K (learnsL R k q)
 | 0, q, h => h
 | k + 1, q, h => by
  have ih := learnsL_good hR k q h
  rw [learnsL]
  have hm : ∀ e ∈ (mergeP ((learnsL R k q).getD k []) (R.getD k [])).1, goodE e ∧ e.time ≤ K := fun e he => by
   rcases merge_mem he with he | he
   ·exact row_good ih k e he
   ·exact row_good hR k e he
  exact ⟨ih.1.set_ k (merge_may _ _) (fun e he => (hm e he).1), ih.2.set_ k (fun e he => (hm e he).2)⟩
theorem heardR_good {c : Cfg} {K : Int} {a b : Int} {R : List (List Ent)} (h : GoodR c R ∧ timeOk K R) : GoodR c (heardR c a b R) ∧ timeOk K (heardR c a b R) := by
 unfold heardR
 have hm : ∀ l ∈ (List.range c.la.zs.length).map (fun i => if i ∈ bothGo a.toNat b.toNat c.la.zs 0 then R.getD i [] else []), ∃ i, l = R.getD i [] ∨ l = [] := fun l hl => by
  obtain ⟨i, _, rfl⟩ := List.mem_map.1 hl
  refine ⟨i, ?_⟩
  split
  ·exact .inl rfl
  ·exact .inr rfl
 refine ⟨⟨by simp [Cfg.ln], fun l hl => ?_, fun l hl e he => ?_⟩, fun l hl e he => ?_⟩
 ·obtain ⟨i, rfl | rfl⟩ := hm l hl
  ·exact getD_mem (P := fun l => mayP l = true) h.1.2.1 rfl i
  ·rfl
 ·obtain ⟨i, rfl | rfl⟩ := hm l hl
  ·exact (row_good h i e he).1
  ·cases he
 ·obtain ⟨i, rfl | rfl⟩ := hm l hl
  ·exact (row_good h i e he).2
  ·cases he
theorem GoodW.tells {c : Cfg} {K : Int} {S : WS} (h : GoodW c K S) (hcf : configP c = true) {p : PoD} (hp : p ∈ S.lts) (hf : 0 ≤ p.fr ∧ p.fr < c.n) (ht : 0 ≤ p.to_ ∧ p.to_ < c.n) :
    ∃ R, (GoodR c R ∧ timeOk K R) ∧ p.data = (rumourP c p.fr p.to_ R).1 ∧ heardP c p.fr p.to_ p.data = (heardR c p.fr p.to_ R, 0) := by
 obtain ⟨⟨hn, _⟩, _⟩ := config_facts hcf
 obtain ⟨R, h1, h2, h3⟩ := h.lts p hp hf.2 ht.2
 refine ⟨R, ⟨h1, h2⟩, h3, ?_⟩
 rw [h3]
 exact (rumour_tells hcf (by omega) (by omega) h1.1 h1.2.1 h1.2.2).2
theorem gains_lts (i : Nat) (l : List Int) (k : Nat) (S : WS) : (gainsW i l k S).st = S.st ∧ (gainsW i l k S).lts = S.lts ∧ (gainsW i l k S).top = S.top ∧ (gainsW i l k S).lost = S.lost := by
 obtain ⟨_, _, h2, _, h4, h5, h6⟩ := gainsW_at i l S k
 exact ⟨h2, h4, h5, h6⟩
theorem come_good {c : Cfg} {K : Int} {S : WS} {N : Nat} (h : GoodW c K S) (hok : S.ok c N) (hcf : configP c = true) {p : PoD} (hp : p ∈ S.lts) : GoodW c K (comeW c S p) := by
 obtain ⟨⟨hn, _⟩, _⟩ := config_facts hcf
 obtain ⟨hf, ht, _, _⟩ := hok.lts p hp
 unfold comeW
 split
 ·exact ⟨h.st, h.lts, h.top, h.lost⟩
 rename_i h1
 split
 ·obtain ⟨e1, e2, e3, e4⟩ := gains_lts p.to_.toNat (askedP c p.data).1 (askedP c p.data).1.length S
  exact ⟨by rw [e1]; exact h.st, by rw [e2]; exact h.lts, by rw [e2, e3]; exact h.top, by rw [e2, e4]; exact h.lost⟩
 rename_i h2
 obtain ⟨R, hR, _, hh⟩ := h.tells hcf hp ⟨hf.1, by omega⟩ ⟨ht.1, by omega⟩
 rw [hh]
 refine ⟨fun i => ?_, h.lts, h.top, h.lost⟩
 show GoodR c (upd1 S.st p.to_.toNat _ i) ∧ timeOk K (upd1 S.st p.to_.toNat _ i)
 rw [upd1_if]
 split
 ·exact learnsL_good (heardR_good hR) _ _ (h.st _)
 ·exact h.st i
theorem tick_good {c : Cfg} {K : Int} {S : WS} (h : GoodW c K S) (hcf : configP c = true) : GoodW c K (tickW c S).2 := by
 have hl : (tickW c S).2.lts = S.lts ++ (sendsTo c S.aged c.n ++ grantsTo c S c.n) := rfl
 refine ⟨h.st, fun p hp h1 h2 => ?_, fun f t => ?_, fun id hid => ?_⟩
 ·rw [hl] at hp
  rcases List.mem_append.1 hp with hp | hp
  ·exact h.lts p hp h1 h2
  ·rcases List.mem_append.1 hp with hp | hp
   ·unfold sendsTo at hp
    obtain ⟨i, hi, hp⟩ := List.mem_flatMap.1 hp
    rcases List.mem_cons.1 hp with rfl | hp
    ·exact absurd h2 (by dsimp only; omega)
    ·unfold rumsTo at hp
     obtain ⟨j, _, rfl⟩ := List.mem_map.1 hp
     exact ⟨S.st i, (h.st i).1, (h.st i).2, rfl⟩
   ·unfold grantsTo at hp
    obtain ⟨i, hi, rfl⟩ := List.mem_map.1 hp
    exact absurd h1 (by dsimp only; omega)
 ·have := h.top f t
  rw [hl, List.length_append]
  show S.top f t ≤ _
  omega
 ·have := h.lost id hid
  rw [hl, List.length_append]
  omega
theorem opened_good {c : Cfg} {K : Int} {S : WS} (h : GoodW c K S) (p : PoD) (id : Int) (hid : id + 1 ≤ S.lts.length) : GoodW c K (S.opened p id) := by
 refine ⟨h.st, h.lts, fun f t => ?_, h.lost⟩
 show (if f = p.fr ∧ t = p.to_ then id + 1 else S.top f t) ≤ _
 split
 ·exact hid
 ·exact h.top f t
theorem due0 {S : WS} {id : Int} (h : dueW S id ≠ 6) : ∃ p, S.lts[id.toNat]? = some p ∧ 0 ≤ id ∧ id < S.lts.length := by
 unfold dueW at h
 split at h
 ·exact absurd rfl h
 rename_i h1
 cases hp : S.lts[id.toNat]? with
 | none => rw [hp] at h; exact absurd rfl h
 | some p =>
  have hlt := (List.getElem?_eq_some_iff.1 hp).1
  have h0 : 0 ≤ id := by
   refine Int.not_lt.1 fun e => h1 ?_
   unfold WS.to_ toP
   rw [if_pos e]
   decide
  exact ⟨p, rfl, h0, by omega⟩
theorem deliver_good {c : Cfg} {K : Int} {S : WS} {N : Nat} (h : GoodW c K S) (hok : S.ok c N) (hcf : configP c = true) (id : Int) : GoodW c K (deliverW c S id).2 := by
 unfold deliverW
 split
 ·exact h
 rename_i h6
 obtain ⟨p, hp, h0, hlt⟩ := due0 h6
 rw [hp]
 dsimp only
 split
 ·exact h
 ·exact come_good (opened_good h p id (by omega)) (opened_ok hok p id) hcf (List.mem_of_getElem? hp)
theorem put_good {c : Cfg} {K : Int} {S : WS} (h : GoodW c K S) (hK : 0 ≤ K) (i l : Nat) (who key value : Int) (hk : 0 ≤ key ∧ key < 8) (hv : 0 ≤ value ∧ value ≤ 255) :
    GoodW c (K + 1) { S with st := upd1 S.st i ((S.st i).set l (putE ((S.st i).getD l []) who key value false)) } := by
 refine ⟨fun a => ?_, fun p hp h1 h2 => ?_, h.top, h.lost⟩
 ·show GoodR c (upd1 S.st i _ a) ∧ timeOk (K + 1) (upd1 S.st i _ a)
  rw [upd1_if]
  split
  ·have hti : timeL ((S.st i).getD l []) 0 ≤ K := by
    have key : ∀ (L : List Ent) (t : Int), t ≤ K → (∀ e ∈ L, e.time ≤ K) → timeL L t ≤ K := by
     intro L
     induction L with
     | nil => intro t ht _; exact ht
     | cons x L ih =>
      intro t ht hL
      have hx := hL x (by simp)
      unfold timeL
      simp only [List.foldl_cons]
      refine ih _ ?_ (fun e he => hL e (by simp [he]))
      omega
    exact key _ 0 hK (fun e he => (row_good (h.st i) l e he).2)
   have hm : ∀ e ∈ putE ((S.st i).getD l []) who key value false, goodE e ∧ e.time ≤ K + 1 := fun e he => by
    rcases merge_mem he with he | he
    ·have := row_good (h.st i) l e he
     exact ⟨this.1, by omega⟩
    ·rw [List.mem_singleton] at he
     subst he
     exact ⟨⟨hk.2, hv.2⟩, by dsimp only; omega⟩
   exact ⟨(h.st i).1.set_ l (merge_may _ _) (fun e he => (hm e he).1), ((h.st i).2.mono (by omega)).set_ l (fun e he => (hm e he).2)⟩
  ·exact ⟨(h.st a).1, (h.st a).2.mono (by omega)⟩
 ·obtain ⟨R, a, b, d⟩ := h.lts p hp h1 h2
  exact ⟨R, a, b.mono (by omega), d⟩
theorem step_good {c : Cfg} {K : Int} {S : WS} {N : Nat} (h : GoodW c K S) (hK : 0 ≤ K) (hok : S.ok c N) (hcf : configP c = true) (s : StpI) : GoodW c (K + 1) (stepW c S s).2 := by
 have hm := h.more (L := K + 1) (by omega)
 have hsame : ∀ {S' : WS}, S'.st = S.st → S'.lts = S.lts → S'.top = S.top → S'.lost = S.lost → GoodW c (K + 1) S' := fun e1 e2 e3 e4 => ⟨by rw [e1]; exact hm.st, by rw [e2]; exact hm.lts, by rw [e2, e3]; exact hm.top, by rw [e2, e4]; exact hm.lost⟩
 unfold stepW
 split
 ·exact tick_good hm hcf
 split
 ·exact deliver_good hm hok hcf s.id
 split
 ·split
  ·rename_i hd
   obtain ⟨p, hp, h0, hlt⟩ := due0 (S := S) (id := s.id) (by rw [hd]; decide)
   refine ⟨hm.st, hm.lts, hm.top, fun id hid => ?_⟩
   have hid' : (if id = s.id then true else S.lost id) = true := hid
   split at hid'
   ·rename_i e; rw [e]; exact hlt
   ·exact hm.lost id hid'
  ·exact hm
 split
 ·exact hm
 split
 ·exact hm
 unfold clientW
 split
 ·unfold entryW
  split
  ·exact hm
  rename_i hb
  split
  ·exact hm
  split
  ·rename_i hk7
   exact put_good h hK _ _ _ _ _ (by omega) (by omega)
  split
  ·exact hm
  ·exact hm
 split
 ·exact hm
 split
 ·split
  ·exact hm
  split
  ·exact hm
  ·exact hsame rfl rfl rfl rfl
 ·exact hsame rfl rfl rfl rfl
theorem new_good {c : Cfg} : GoodW c 0 (WS.new c) := by
 have key : ∀ l ∈ List.replicate c.ln ([] : List Ent), l = [] := fun l hl => (List.mem_replicate.1 hl).2
 refine ⟨fun i => ⟨⟨List.length_replicate, fun l hl => ?_, fun l hl e he => ?_⟩, fun l hl e he => ?_⟩, fun p hp => (by cases hp), fun f t => ?_, fun id h => by cases h⟩
 ·rw [key l hl]; rfl
 ·rw [key l hl] at he; cases he
 ·rw [key l hl] at he; cases he
 ·show (0 : Int) ≤ _
  omega
end
section
open Go.RowKit
theorem asksP_size {c : Cfg} (hcf : configP c = true) {zs : List Int} (hl : zs.length = c.m) (hz : ∀ z ∈ zs, 0 ≤ z ∧ z ≤ 1048576) : (asksP c zs).1.length = (sizeP (List.replicate c.m 21)).1.toNat := by
 obtain ⟨_, _, _, ⟨hm1, hm3⟩, _⟩ := config_facts hcf
 have hbad : zs.any badN = false := by
  rw [List.any_eq_false]
  intro z hz'
  have := hz z hz'
  unfold badN
  simp
  omega
 unfold asksP
 rw [if_neg (by rw [hcf]; simp), if_neg (by unfold Cfg.m at hl; omega), if_neg (by rw [hbad]; simp)]
 unfold packP
 have hfst : (zs.map fun z : Int => ((21 : Int), z)).map (·.1) = List.replicate c.m 21 := by
  rw [List.map_map, ← hl]
  exact List.map_const'
 rw [hfst]
 have h0 : (sizeP (List.replicate c.m 21)).2 = 0 := by
  obtain h | h | h | h : c.m = 0 ∨ c.m = 1 ∨ c.m = 2 ∨ c.m = 3 := by omega
  all_goals rw [h]; decide
 have hfit : (zs.map fun z : Int => ((21 : Int), z)).all fitsF = true := by
  rw [List.all_eq_true]
  intro f hf
  obtain ⟨z, hz', rfl⟩ := List.mem_map.1 hf
  have := hz z hz'
  have h21 : (2 : Int) ^ (21 : Int).toNat = 2097152 := by decide
  unfold fitsF
  dsimp only
  rw [h21, decide_eq_true_eq]
  omega
 rw [if_neg (by rw [h0]; simp), if_pos hfit]
 simp [bytesOf]
section
variable {c : Cfg} {S S' : WS} {x N : Nat}
theorem given_ok (hok : S.ok c N) (hcf : configP c = true) (i : Nat) (hi : i < c.n) : (givenTo c S c.m i).length = c.m ∧ ∀ z ∈ givenTo c S c.m i, 0 ≤ z ∧ z ≤ 1048576 := by
 obtain ⟨_, _, _, _, hcap, _⟩ := config_facts hcf
 unfold givenTo
 refine ⟨by simp, fun z hz => ?_⟩
 obtain ⟨j, _, rfl⟩ := List.mem_map.1 hz
 have hr := round_ok (ticks := c.tk) (hok.bk j) hcap
 have e : grantOf c S j = (roundB c.cap c.tk (S.bk j)).1.granted := rfl
 rw [e]
 have h1 := get_of_lt hr.lg hi
 have h2 := get_of_lt hr.lw hi
 have h3 := hr.gw i _ _ h1 h2
 have h4 := hr.g _ (List.mem_of_getElem? h1)
 have h5 := hr.w _ (List.mem_of_getElem? h2)
 omega
theorem tick_letters (hcf : configP c = true) (h : Rel c x S S') (hG : ∀ i, GoodR c (S.st i)) (hG' : ∀ i, GoodR c (S'.st i)) (hok : S.ok c N) (hok' : S'.ok c N) (hg : ∀ j, j < c.m → ∀ i : Nat, x.testBit i = true → (grantOf c S j).getD i 0 = (grantOf c S' j).getD i 0) :
    All2 (LtRel c x) (sendsTo c S.aged c.n ++ grantsTo c S c.n) (sendsTo c S'.aged c.n ++ grantsTo c S' c.n) := by
 refine All2.append ?_ ?_
 ·unfold sendsTo
  refine All2.flatMap _ _ _ fun i hi => ?_
  have hi' := List.mem_range.1 hi
  unfold sendsOf
  refine .cons ?_ ?_
  ·refine ⟨rfl, rfl, ?_, ?_, fun _ h2 => ?_⟩
   ·show (asksP c (S.ask i)).1.length = (asksP c (S'.ask i)).1.length
    rw [asksP_size hcf (hok.ask i).1 (hok.ask i).2, asksP_size hcf (hok'.ask i).1 (hok'.ask i).2]
   ·rintro (⟨_, h2⟩ | ⟨h2, _⟩)
    ·show (asksP c (S.ask i)).1 = (asksP c (S'.ask i)).1
     rw [h.ask i (by simpa using h2)]
    ·exact absurd h2 (by dsimp only; omega)
   ·exact absurd h2 (by dsimp only; omega)
  ·unfold rumsTo
   refine All2.map _ _ _ fun j hj => ?_
   have hj' := List.mem_range.1 (List.mem_filter.1 hj).1
   have hra := rumour_alike (x := x) (a := i) (b := j) hcf hi' hj' (hG i) (hG' i) (fun l hl => h.st i l hl)
   refine ⟨rfl, rfl, hra.1, ?_, fun _ _ => ⟨S.st i, S'.st i, rfl, rfl, hG i, hG' i, fun l hl => h.st i l hl⟩⟩
   rintro (⟨_, h2⟩ | ⟨_, h2⟩)
   ·exact hra.2 (.inl (by simpa using h2))
   ·exact hra.2 (.inr (by simpa using h2))
 ·unfold grantsTo
  refine All2.map _ _ _ fun i hi => ?_
  have hi' := List.mem_range.1 hi
  refine ⟨rfl, rfl, ?_, ?_, fun h1 _ => absurd h1 (by dsimp only; omega)⟩
  ·show (asksP c (givenTo c S c.m i)).1.length = (asksP c (givenTo c S' c.m i)).1.length
   rw [asksP_size hcf (given_ok hok hcf i hi').1 (given_ok hok hcf i hi').2, asksP_size hcf (given_ok hok' hcf i hi').1 (given_ok hok' hcf i hi').2]
  ·rintro (⟨h2, _⟩ | ⟨_, h2⟩)
   ·exact absurd h2 (by dsimp only; omega)
   ·show (asksP c (givenTo c S c.m i)).1 = (asksP c (givenTo c S' c.m i)).1
    have e : givenTo c S c.m i = givenTo c S' c.m i := by
     unfold givenTo
     refine List.map_congr_left fun j hj => ?_
     exact hg j (List.mem_range.1 hj) i (by simpa using h2)
    rw [e]
theorem envs_rel : ∀ {l m : List PoD} (k : Nat), All2 (LtRel c x) l m → envs k l = envs k m
 | _, _, _, .nil => rfl
 | _, _, k, .cons a h => by rw [envs, envs, envs_rel (k + 1) h, a.fr, a.to_, a.len]
theorem filterMap_same {α β : Type} : ∀ (l : List α) (f g : α → Option β), (∀ a ∈ l, f a = g a) → l.filterMap f = l.filterMap g
 | [], _, _, _ => rfl
 | a :: l, f, g, h => by
  rw [List.filterMap_cons, List.filterMap_cons, h a (by simp), filterMap_same l f g fun b hb => h b (by simp [hb])]
theorem tick_rel (hcf : configP c = true) (h : Rel c x S S') (hG : ∀ i, GoodR c (S.st i)) (hG' : ∀ i, GoodR c (S'.st i)) (hok : S.ok c N) (hok' : S'.ok c N)
    (hr : ∀ j, j < c.m → (S.bk j).round % c.tk = 0 → (S.bk j).reserve = (S'.bk j).reserve) : Rel c x (tickW c S).2 (tickW c S').2 ∧ (tickW c S).1 = (tickW c S').1 := by
 have hb := fun j (hj : j < c.m) => (h.bk j hj).round c.cap c.tk (hr j hj)
 have hl := tick_letters hcf h hG hG' hok hok' (fun j hj i hi => (hb j hj).2.2 i hi)
 refine ⟨⟨fun i k hi => ?_, h.ask, h.gn, h.st, fun j hj => ?_, fun j hj h0 => ?_, h.lts.append hl, h.top, h.lost⟩, ?_⟩
 ·show ((S.sh i k).does tickO).1 = ((S'.sh i k).does tickO).1
  rw [h.sh i k hi]
 ·show BkQ x (if j < c.m then (roundB c.cap c.tk (S.bk j)).1 else S.bk j) (if j < c.m then (roundB c.cap c.tk (S'.bk j)).1 else S'.bk j)
  rw [if_pos hj, if_pos hj]
  exact (hb j hj).1
 ·exfalso
  have h1 : (if j < c.m then (roundB c.cap c.tk (S.bk j)).1 else S.bk j).round = 0 := h0
  rw [if_pos hj, round_round] at h1
  have := (hok.bk j).rd
  omega
 ·unfold tickW
  rw [h.lts.len, envs_rel _ hl]
  have e : reportsTo c S c.m = reportsTo c S' c.m := by
   unfold reportsTo
   refine filterMap_same _ _ _ fun j hj => ?_
   have e2 : reportOf c S j = reportOf c S' j := (hb j (List.mem_range.1 hj)).2.1
   rw [e2]
  rw [e]
theorem due_rel (h : Rel c x S S') (id : Int) : dueW S id = dueW S' id := by
 unfold dueW WS.to_ toP
 by_cases h0 : id < 0
 ·rw [if_pos h0, if_pos h0]
  rfl
 ·rw [if_neg h0, if_neg h0]
  rcases h.lts.get id.toNat with ⟨e1, e2⟩ | ⟨a, b, e1, e2, hp⟩
  ·rw [e1, e2]
  ·rw [e1, e2]
   dsimp only
   simp only [hp.to_, hp.fr, h.top, h.lost]
theorem Rel.opened (h : Rel c x S S') {p p' : PoD} (hp : LtRel c x p p') (id : Int) : Rel c x (S.opened p id) (S'.opened p' id) := by
 refine ⟨h.sh, h.ask, h.gn, h.st, h.bk, h.r0, h.lts, ?_, h.lost⟩
 unfold WS.opened
 rw [hp.fr, hp.to_, h.top]
theorem wants_bk (S : WS) (fr : Nat) (l : List Int) (k j : Nat) : (S.wants fr l k).bk j = if j < k then wantB (S.bk j) fr (l.getD j 0) else S.bk j := rfl
theorem come_rel (hcf : configP c = true) (h : Rel c x S S') {p p' : PoD} (hp : LtRel c x p p') (hfr : 0 ≤ p.fr ∧ p.fr ≤ c.n) (hto : 0 ≤ p.to_ ∧ p.to_ ≤ c.n) (hft : p.fr = c.n → p.to_ < c.n) (hG : ∀ i, GoodR c (S.st i)) (hG' : ∀ i, GoodR c (S'.st i)) : Rel c x (comeW c S p) (comeW c S' p') := by
 obtain ⟨⟨hn, _⟩, _⟩ := config_facts hcf
 unfold comeW
 rw [← hp.to_, ← hp.fr]
 by_cases h1 : p.to_ = c.br
 ·rw [if_pos h1, if_pos h1]
  have hb : ∀ j, j < c.m → BkQ x ((S.wants p.fr.toNat (askedP c p.data).1 (askedP c p.data).1.length).bk j) ((S'.wants p.fr.toNat (askedP c p'.data).1 (askedP c p'.data).1.length).bk j) := fun j hj => by
   have hq := h.bk j hj
   cases hx : x.testBit p.fr.toNat with
   | true =>
    have hd := hp.same (.inl ⟨by omega, hx⟩)
    rw [← hd, wants_bk, wants_bk]
    split
    ·exact hq.want _ _ _ (fun _ => rfl)
    ·exact hq
   | false =>
    rw [wants_bk, wants_bk]
    split <;> split
    ·exact (hq.wantL _ _ hx).wantR _ _ hx
    ·exact hq.wantL _ _ hx
    ·exact hq.wantR _ _ hx
    ·exact hq
  refine ⟨h.sh, h.ask, h.gn, h.st, hb, fun j hj h0 => ?_, h.lts, h.top, h.lost⟩
  have e : ∀ (T : WS) (l : List Int), ((T.wants p.fr.toNat l l.length).bk j).round = (T.bk j).round ∧ ((T.wants p.fr.toNat l l.length).bk j).reserve = (T.bk j).reserve := fun T l => by
   rw [wants_bk]
   split
   ·exact ⟨rfl, rfl⟩
   ·exact ⟨rfl, rfl⟩
  rw [(e _ _).1] at h0
  rw [(e _ _).2, (e _ _).2]
  exact h.r0 j hj h0
 rw [if_neg h1, if_neg h1]
 by_cases h2 : p.fr = c.br
 ·rw [if_pos h2, if_pos h2]
  obtain ⟨a1, a2, a3, a4, a5, a6, a7⟩ := gainsW_at p.to_.toNat (askedP c p.data).1 S (askedP c p.data).1.length
  obtain ⟨b1, b2, b3, b4, b5, b6, b7⟩ := gainsW_at p.to_.toNat (askedP c p'.data).1 S' (askedP c p'.data).1.length
  have key : ∀ i, x.testBit i = true → (gainsW p.to_.toNat (askedP c p.data).1 (askedP c p.data).1.length S).sh i = (gainsW p.to_.toNat (askedP c p'.data).1 (askedP c p'.data).1.length S').sh i ∧ (gainsW p.to_.toNat (askedP c p.data).1 (askedP c p.data).1.length S).gn i = (gainsW p.to_.toNat (askedP c p'.data).1 (askedP c p'.data).1.length S').gn i := fun i hi => by
   by_cases hii : i = p.to_.toNat
   ·have hd := hp.same (.inr ⟨hft (by omega), by rw [← hii]; exact hi⟩)
    rw [← hd, hii]
    rw [hii] at hi
    exact gainsW_own _ _ _ _ (funext fun k => h.sh _ k hi) (h.gn _ hi) _
   ·rw [(a1 i hii).1, (a1 i hii).2, (b1 i hii).1, (b1 i hii).2]
    exact ⟨funext fun k => h.sh i k hi, h.gn i hi⟩
  refine ⟨fun i k hi => by rw [(key i hi).1], fun i hi => by rw [a2, b2]; exact h.ask i hi, fun i hi => (key i hi).2, fun i l hl => by rw [a3, b3]; exact h.st i l hl, fun j hj => by rw [a4, b4]; exact h.bk j hj, fun j hj => by rw [a4, b4]; exact h.r0 j hj, by rw [a5, b5]; exact h.lts, by rw [a6, b6]; exact h.top, by rw [a7, b7]; exact h.lost⟩
 ·rw [if_neg h2, if_neg h2]
  have hf : p.fr < c.n := by omega
  have ht : p.to_ < c.n := by omega
  obtain ⟨R, R', e1, e2, g1, g2, hR⟩ := hp.rum hf ht
  have t1 := (rumour_tells (a := p.fr) (b := p.to_) hcf (by omega) (by omega) g1.1 g1.2.1 g1.2.2).2
  have t2 := (rumour_tells (a := p.fr) (b := p.to_) hcf (by omega) (by omega) g2.1 g2.2.1 g2.2.2).2
  rw [e1, e2, t1, t2]
  dsimp only
  have hH : ∀ (R : List (List Ent)), (heardR c p.fr p.to_ R).length = c.ln := fun R => by unfold heardR; simp [Cfg.ln]
  have hHk : ∀ (R : List (List Ent)) (k : Nat), k < c.ln → (heardR c p.fr p.to_ R).getD k [] = if k ∈ bothGo p.fr.toNat p.to_.toNat c.la.zs 0 then R.getD k [] else [] := fun R k hk => by
   unfold heardR
   rw [List.getD_eq_getElem?_getD, List.getElem?_map, List.getElem?_range (by unfold Cfg.ln at hk; exact hk)]
   rfl
  refine ⟨h.sh, h.ask, h.gn, fun i l hl => ?_, h.bk, h.r0, h.lts, h.top, h.lost⟩
  show (upd1 S.st p.to_.toNat _ i).getD l [] = (upd1 S'.st p.to_.toNat _ i).getD l []
  rw [upd1_if, upd1_if]
  by_cases hi : i = p.to_.toNat
  ·rw [if_pos hi, if_pos hi]
   have q1 := (learnsL_get (heardR c p.fr p.to_ R) (heardR c p.fr p.to_ R).length (S.st p.to_.toNat) l).2
   have q2 := (learnsL_get (heardR c p.fr p.to_ R') (heardR c p.fr p.to_ R').length (S'.st p.to_.toNat) l).2
   rw [hH, (hG _).1] at q1
   rw [hH, (hG' _).1] at q2
   rw [hH, hH, q1, q2]
   by_cases hlt : l < c.ln ∧ l < c.ln
   ·rw [if_pos hlt, if_pos hlt, hHk R l hlt.1, hHk R' l hlt.1, hR l hl, h.st _ l hl]
   ·rw [if_neg hlt, if_neg hlt, h.st _ l hl]
  ·rw [if_neg hi, if_neg hi]
   exact h.st i l hl
def SameM (c : Cfg) (x : Nat) (d d' : TolD) : Prop := maskD c.n x d = maskD c.n x d' ∧ d.report = d'.report
theorem SameM.of_eq {d d' : TolD} (h : d = d') : SameM c x d d' := by rw [h]; exact ⟨rfl, rfl⟩
theorem SameM.hid {d d' : TolD} (hm : mineB c.n x d.who = false) (hw : d.who = d'.who) (hs : d.sent = d'.sent) (hr : d.report = d'.report) : SameM c x d d' := by
 refine ⟨?_, hr⟩
 unfold maskD
 rw [if_neg (by rw [hm]; simp), if_neg (by rw [← hw, hm]; simp), hw, hs, hr]
theorem deliver_rel (hcf : configP c = true) (h : Rel c x S S') (hok : S.ok c N) (hG : ∀ i, GoodR c (S.st i)) (hG' : ∀ i, GoodR c (S'.st i)) (id : Int) : Rel c x (deliverW c S id).2 (deliverW c S' id).2 ∧ SameM c x (deliverW c S id).1 (deliverW c S' id).1 := by
 unfold deliverW
 rw [← due_rel h id]
 by_cases h6 : dueW S id = 6
 ·rw [if_pos h6, if_pos h6]
  exact ⟨h, .of_eq rfl⟩
 rw [if_neg h6, if_neg h6]
 rcases h.lts.get id.toNat with ⟨e1, e2⟩ | ⟨p, p', e1, e2, hp⟩
 ·rw [e1, e2]
  exact ⟨h, .of_eq rfl⟩
 rw [e1, e2]
 dsimp only
 by_cases h0 : dueW S id ≠ 0
 ·rw [if_pos h0, if_pos h0, hp.to_]
  exact ⟨h, .of_eq rfl⟩
 rw [if_neg h0, if_neg h0]
 obtain ⟨hf, ht, _, hft⟩ := hok.lts p (List.mem_of_getElem? e1)
 refine ⟨come_rel hcf (h.opened hp id) hp hf ht hft hG hG', ?_⟩
 cases hm : mineB c.n x p.to_ with
 | false => exact .hid hm hp.to_ rfl rfl
 | true =>
  unfold mineB at hm
  simp only [Bool.and_eq_true, decide_eq_true_eq] at hm
  rw [hp.same (.inr ⟨hm.1.2, hm.2⟩), hp.to_]
  exact .of_eq rfl
end
end
section
open Go.RowKit
section
variable {c : Cfg} {S S' T T' : WS} {x N : Nat}
structure Unseen (c : Cfg) (x : Nat) (S T : WS) : Prop where
 sh : ∀ i k, x.testBit i = true → T.sh i k = S.sh i k
 ask : ∀ i, x.testBit i = true → T.ask i = S.ask i
 gn : ∀ i, x.testBit i = true → T.gn i = S.gn i
 st : ∀ i l, tch c x l → (T.st i).getD l [] = (S.st i).getD l []
 bk : T.bk = S.bk
 lts : T.lts = S.lts
 top : T.top = S.top
 lost : T.lost = S.lost
theorem Unseen.refl (c : Cfg) (x : Nat) (S : WS) : Unseen c x S S := ⟨fun _ _ _ => rfl, fun _ _ => rfl, fun _ _ => rfl, fun _ _ _ => rfl, rfl, rfl, rfl, rfl⟩
theorem Rel.unseen (h : Rel c x S S') (a : Unseen c x S T) (b : Unseen c x S' T') : Rel c x T T' :=
 ⟨fun i k hi => by rw [a.sh i k hi, b.sh i k hi, h.sh i k hi], fun i hi => by rw [a.ask i hi, b.ask i hi, h.ask i hi], fun i hi => by rw [a.gn i hi, b.gn i hi, h.gn i hi], fun i l hl => by rw [a.st i l hl, b.st i l hl, h.st i l hl], fun j hj => by rw [a.bk, b.bk]; exact h.bk j hj, fun j hj => by rw [a.bk, b.bk]; exact h.r0 j hj, by rw [a.lts, b.lts]; exact h.lts, by rw [a.top, b.top]; exact h.top, by rw [a.lost, b.lost]; exact h.lost⟩
theorem BkQ.refl (x : Nat) (s : BkS) : BkQ x s s := ⟨rfl, rfl, rfl, rfl, fun _ _ => rfl, fun _ _ => rfl, fun _ _ => rfl⟩
theorem Rel.new (c : Cfg) (x : Nat) : Rel c x (WS.new c) (WS.new c) := ⟨fun _ _ _ => rfl, fun _ _ => rfl, fun _ _ => rfl, fun _ _ _ => rfl, fun _ _ => .refl _ _, fun _ _ _ => rfl, .nil, rfl, rfl⟩
theorem entry_told (s : StpI) (i : Nat) : (entryW c S s i).1.who = i ∧ (entryW c S s i).1.sent = [] ∧ (entryW c S s i).1.report = [] := by
 unfold entryW
 split
 ·exact ⟨rfl, rfl, rfl⟩
 split
 ·exact ⟨rfl, rfl, rfl⟩
 split
 ·exact ⟨rfl, rfl, rfl⟩
 split <;> exact ⟨rfl, rfl, rfl⟩
theorem client_told (s : StpI) (i : Nat) : (clientW c S s i).1.who = i ∧ (clientW c S s i).1.sent = [] ∧ (clientW c S s i).1.report = [] := by
 unfold clientW
 split
 ·exact entry_told s i
 split
 ·exact ⟨rfl, rfl, rfl⟩
 split
 ·split
  ·exact ⟨rfl, rfl, rfl⟩
  split <;> exact ⟨rfl, rfl, rfl⟩
 ·exact ⟨rfl, rfl, rfl⟩
theorem getD_setR (q : List (List Ent)) (k l : Nat) (v : List Ent) : (q.set k v).getD l [] = if k = l ∧ l < q.length then v else q.getD l [] := by
 rw [List.getD_eq_getElem?_getD, List.getElem?_set, List.getD_eq_getElem?_getD]
 by_cases h : k = l
 ·subst h
  rw [if_pos rfl]
  by_cases h2 : k < q.length
  ·rw [if_pos h2, if_pos ⟨rfl, h2⟩]; rfl
  ·rw [if_neg h2, if_neg (fun e => h2 e.2), List.getElem?_eq_none (by omega)]
 ·rw [if_neg h, if_neg (fun e => h e.1)]
theorem client_unseen (s : StpI) (i : Nat) (hx : x.testBit i = false) (hk : (s.kind = 7 ∨ s.kind = 8) → ¬ tch c x s.label.toNat) : Unseen c x S (clientW c S s i).2 := by
 have hne : ∀ a, x.testBit a = true → a ≠ i := fun a ha e => by rw [e, hx] at ha; cases ha
 unfold clientW
 split
 ·rename_i h7
  unfold entryW
  split
  ·exact .refl _ _ _
  split
  ·exact .refl _ _ _
  split
  ·refine ⟨fun _ _ _ => rfl, fun _ _ => rfl, fun _ _ => rfl, fun a l hl => ?_, rfl, rfl, rfl, rfl⟩
   show (upd1 S.st i _ a).getD l [] = _
   rw [upd1_if]
   split
   ·rename_i e
    rw [getD_setR, if_neg (fun e2 => hk h7 (by rw [e2.1]; exact hl)), e]
   ·rfl
  split
  ·exact .refl _ _ _
  ·exact .refl _ _ _
 split
 ·exact .refl _ _ _
 split
 ·split
  ·exact .refl _ _ _
  split
  ·exact .refl _ _ _
  ·refine ⟨fun _ _ _ => rfl, fun a ha => ?_, fun _ _ => rfl, fun a l hl => rfl, rfl, rfl, rfl, rfl⟩
   exact upd1_ne _ _ (hne a ha)
 ·refine ⟨fun a k ha => ?_, fun _ _ => rfl, fun _ _ => rfl, fun a l hl => rfl, rfl, rfl, rfl, rfl⟩
  show upd1 S.sh i _ a k = _
  rw [upd1_ne _ _ (hne a ha)]
theorem entry_rel (h : Rel c x S S') (hG : ∀ i, (S.st i).length = c.ln) (hG' : ∀ i, (S'.st i).length = c.ln) (s : StpI) (i : Nat) (ht : (c.la.zs.getD s.label.toNat 0).toNat.testBit i = true → tch c x s.label.toNat) : Rel c x (entryW c S s i).2 (entryW c S' s i).2 ∧ (entryW c S s i).1 = (entryW c S' s i).1 := by
 unfold entryW
 by_cases h1 : s.label < 0 ∨ (c.ln : Int) ≤ s.label ∨ s.key < 0 ∨ 8 ≤ s.key ∨ (s.kind = 7 ∧ (s.count < 0 ∨ 255 < s.count))
 ·rw [if_pos h1, if_pos h1]
  exact ⟨h, rfl⟩
 rw [if_neg h1, if_neg h1]
 by_cases h2 : (c.la.zs.getD s.label.toNat 0).toNat.testBit i = false
 ·rw [if_pos h2, if_pos h2]
  exact ⟨h, rfl⟩
 rw [if_neg h2, if_neg h2]
 have hr := h.st i _ (ht (by simpa using h2))
 rw [hr]
 by_cases h3 : s.kind = 7
 ·rw [if_pos h3, if_pos h3]
  refine ⟨⟨h.sh, h.ask, h.gn, fun a l hl => ?_, h.bk, h.r0, h.lts, h.top, h.lost⟩, rfl⟩
  show (upd1 S.st i _ a).getD l [] = (upd1 S'.st i _ a).getD l []
  rw [upd1_if, upd1_if]
  split
  ·rw [getD_setR, getD_setR, hG, hG']
   split
   ·rfl
   ·exact h.st i l hl
  ·exact h.st a l hl
 rw [if_neg h3, if_neg h3]
 split
 ·exact ⟨h, rfl⟩
 ·exact ⟨h, rfl⟩
theorem client_rel (h : Rel c x S S') (hG : ∀ i, (S.st i).length = c.ln) (hG' : ∀ i, (S'.st i).length = c.ln) (s : StpI) (i : Nat) (hi : i < c.n) : Rel c x (clientW c S s i).2 (clientW c S' s i).2 ∧ SameM c x (clientW c S s i).1 (clientW c S' s i).1 := by
 by_cases h7 : s.kind = 7 ∨ s.kind = 8
 ·by_cases ht : (c.la.zs.getD s.label.toNat 0).toNat.testBit i = true → tch c x s.label.toNat
  ·have := entry_rel h hG hG' s i ht
   unfold clientW
   rw [if_pos h7, if_pos h7]
   exact ⟨this.1, .of_eq this.2⟩
  ·have hm : (c.la.zs.getD s.label.toNat 0).toNat.testBit i = true := by
    cases hc : (c.la.zs.getD s.label.toNat 0).toNat.testBit i with
    | true => rfl
    | false => exact absurd (fun e => by rw [hc] at e; cases e) ht
   have hn : ¬ tch c x s.label.toNat := fun e => ht fun _ => e
   have hx : x.testBit i = false := by
    cases hc : x.testBit i with
    | false => rfl
    | true => exact absurd ⟨i, hi, hc, hm⟩ hn
   refine ⟨h.unseen (client_unseen s i hx fun _ => hn) (client_unseen s i hx fun _ => hn), ?_⟩
   obtain ⟨a1, a2, a3⟩ := client_told (c := c) (S := S) s i
   obtain ⟨b1, b2, b3⟩ := client_told (c := c) (S := S') s i
   exact .hid (by unfold mineB; rw [a1, Int.toNat_natCast, hx, Bool.and_false]) (by rw [a1, b1]) (by rw [a2, b2]) (by rw [a3, b3])
 cases hx : x.testBit i with
 | false =>
  refine ⟨h.unseen (client_unseen s i hx fun e => absurd e h7) (client_unseen s i hx fun e => absurd e h7), ?_⟩
  obtain ⟨a1, a2, a3⟩ := client_told (c := c) (S := S) s i
  obtain ⟨b1, b2, b3⟩ := client_told (c := c) (S := S') s i
  exact .hid (by unfold mineB; rw [a1, Int.toNat_natCast, hx, Bool.and_false]) (by rw [a1, b1]) (by rw [a2, b2]) (by rw [a3, b3])
 | true =>
  unfold clientW
  rw [if_neg h7, if_neg h7, h.ask i hx, h.sh i _ hx]
  by_cases h1 : s.item < 0 ∨ (c.m : Int) ≤ s.item
  ·rw [if_pos h1, if_pos h1]
   exact ⟨h, .of_eq rfl⟩
  rw [if_neg h1, if_neg h1]
  by_cases h2 : s.kind = 1
  ·rw [if_pos h2, if_pos h2]
   split
   ·exact ⟨h, .of_eq rfl⟩
   split
   ·exact ⟨h, .of_eq rfl⟩
   ·refine ⟨⟨h.sh, fun a ha => ?_, h.gn, h.st, h.bk, h.r0, h.lts, h.top, h.lost⟩, .of_eq rfl⟩
    show upd1 S.ask i _ a = upd1 S'.ask i _ a
    rw [upd1_if, upd1_if]
    split
    ·rfl
    ·exact h.ask a ha
  ·rw [if_neg h2, if_neg h2]
   refine ⟨⟨fun a k ha => ?_, h.ask, h.gn, h.st, h.bk, h.r0, h.lts, h.top, h.lost⟩, .of_eq rfl⟩
   show upd1 S.sh i _ a k = upd1 S'.sh i _ a k
   rw [upd1_if, upd1_if]
   split
   ·rw [upd1_if, upd1_if]
    split
    ·rfl
    ·exact h.sh i k hx
   ·exact h.sh a k ha
def Alike (c : Cfg) (x : Nat) (s s' : StpI) : Prop :=
 s = s' ∨ (s.who = s'.who ∧ 0 ≤ s.who ∧ s.who < c.n ∧ x.testBit s.who.toNat = false ∧ ((1 ≤ s.kind ∧ s.kind ≤ 6 ∧ 1 ≤ s'.kind ∧ s'.kind ≤ 6) ∨ ((s.kind = 7 ∨ s.kind = 8) ∧ (s'.kind = 7 ∨ s'.kind = 8) ∧ s.label = s'.label ∧ ¬ tch c x s.label.toNat)))
theorem Alike.tick {s s' : StpI} (h : Alike c x s s') (hk : s.kind = 9) : s = s' := by
 rcases h with h | ⟨_, _, _, _, h | h⟩
 ·exact h
 ·omega
 ·omega
theorem step_own (hcf : configP c = true) (s : StpI) (hk : 1 ≤ s.kind ∧ s.kind ≤ 8) (hw : 0 ≤ s.who ∧ s.who < c.n) : stepW c S s = clientW c S s s.who.toNat := by
 obtain ⟨⟨hn, _⟩, _⟩ := config_facts hcf
 unfold stepW
 rw [if_neg (by omega), if_neg (by omega), if_neg (by omega), if_neg (by omega), if_neg (by omega)]
theorem step_rel (hcf : configP c = true) (h : Rel c x S S') {K : Int} (hG : GoodW c K S) (hG' : GoodW c K S') (hok : S.ok c N) (hok' : S'.ok c N) {s s' : StpI} (ha : Alike c x s s')
    (hr : s.kind = 9 → ∀ j, j < c.m → (S.bk j).round % c.tk = 0 → (S.bk j).reserve = (S'.bk j).reserve) : Rel c x (stepW c S s).2 (stepW c S' s').2 ∧ SameM c x (stepW c S s).1 (stepW c S' s').1 := by
 obtain ⟨⟨hn, _⟩, _⟩ := config_facts hcf
 rcases ha with rfl | ⟨hw, hw0, hwn, hx, hk⟩
 ·unfold stepW
  by_cases h9 : s.kind = 9
  ·rw [if_pos h9, if_pos h9]
   have := tick_rel hcf h (fun i => (hG.st i).1) (fun i => (hG'.st i).1) hok hok' (hr h9)
   exact ⟨this.1, .of_eq this.2⟩
  rw [if_neg h9, if_neg h9]
  by_cases h10 : s.kind = 10
  ·rw [if_pos h10, if_pos h10]
   exact deliver_rel hcf h hok (fun i => (hG.st i).1) (fun i => (hG'.st i).1) s.id
  rw [if_neg h10, if_neg h10]
  by_cases h11 : s.kind = 11
  ·rw [if_pos h11, if_pos h11, due_rel h]
   split
   ·refine ⟨⟨h.sh, h.ask, h.gn, h.st, h.bk, h.r0, h.lts, h.top, ?_⟩, .of_eq rfl⟩
    unfold WS.lose
    dsimp only
    rw [h.lost]
   ·exact ⟨h, .of_eq rfl⟩
  rw [if_neg h11, if_neg h11]
  by_cases h1 : s.kind < 1 ∨ 11 < s.kind
  ·rw [if_pos h1, if_pos h1]
   exact ⟨h, .of_eq rfl⟩
  rw [if_neg h1, if_neg h1]
  by_cases h2 : s.who < 0 ∨ c.br ≤ s.who
  ·rw [if_pos h2, if_pos h2]
   exact ⟨h, .of_eq rfl⟩
  rw [if_neg h2, if_neg h2]
  exact client_rel h (fun i => (hG.st i).1.1) (fun i => (hG'.st i).1.1) s _ (by omega)
 ·have e1 := step_own (S := S) hcf s (by omega) ⟨hw0, hwn⟩
  have e2 := step_own (S := S') hcf s' (by omega) (by rw [← hw]; exact ⟨hw0, hwn⟩)
  rw [e1, e2, ← hw]
  have u1 : (s.kind = 7 ∨ s.kind = 8) → ¬ tch c x s.label.toNat := fun e => by
   rcases hk with hk | hk
   ·omega
   ·exact hk.2.2.2
  have u2 : (s'.kind = 7 ∨ s'.kind = 8) → ¬ tch c x s'.label.toNat := fun e => by
   rcases hk with hk | hk
   ·omega
   ·rw [← hk.2.2.1]; exact hk.2.2.2
  refine ⟨h.unseen (client_unseen s _ hx u1) (client_unseen s' _ hx u2), ?_⟩
  obtain ⟨a1, a2, a3⟩ := client_told (c := c) (S := S) s s.who.toNat
  obtain ⟨b1, b2, b3⟩ := client_told (c := c) (S := S') s' s.who.toNat
  exact .hid (by unfold mineB; rw [a1, Int.toNat_natCast, hx, Bool.and_false]) (by rw [a1, b1]) (by rw [a2, b2]) (by rw [a3, b3])
end
def ticksN : List StpI → Nat
 | [] => 0
 | s :: l => (if s.kind = 9 then 1 else 0) + ticksN l
theorem come_round {c : Cfg} {S : WS} (p : PoD) (j : Nat) : ((comeW c S p).bk j).round = (S.bk j).round := by
 unfold comeW
 split
 ·rw [wants_bk]
  split <;> rfl
 split
 ·rw [(gainsW_at p.to_.toNat (askedP c p.data).1 S (askedP c p.data).1.length).2.2.2.1]
 ·rfl
theorem step_round {c : Cfg} {S : WS} (s : StpI) (j : Nat) (hj : j < c.m) : ((stepW c S s).2.bk j).round = (S.bk j).round + (if s.kind = 9 then 1 else 0) := by
 unfold stepW
 by_cases h9 : s.kind = 9
 ·rw [if_pos h9, if_pos h9]
  show (if j < c.m then (roundB c.cap c.tk (S.bk j)).1 else S.bk j).round = _
  rw [if_pos hj, round_round]
 rw [if_neg h9, if_neg h9, Int.add_zero]
 split
 ·unfold deliverW
  split
  ·rfl
  split
  ·rfl
  split
  ·rfl
  ·rw [come_round]
   rfl
 split
 ·split <;> rfl
 split
 ·rfl
 split
 ·rfl
 unfold clientW
 split
 ·unfold entryW
  split
  ·rfl
  split
  ·rfl
  split
  ·rfl
  split <;> rfl
 split
 ·rfl
 split
 ·split
  ·rfl
  split <;> rfl
 ·rfl
theorem runs_first {c : Cfg} {x : Nat} (hcf : configP c = true) : ∀ {l l' : List StpI}, All2 (Alike c x) l l' → ∀ (S S' : WS) (N t : Nat), Rel c x S S' → GoodW c N S → GoodW c N S' → S.ok c N → S'.ok c N → (∀ j, j < c.m → (S.bk j).round = t) → ((t + ticksN l : Nat) : Int) ≤ c.tk →
    Rel c x (runW c l S).2 (runW c l' S').2 ∧ (runW c l S).1.map (maskD c.n x) = (runW c l' S').1.map (maskD c.n x)
 | _, _, .nil, S, S', N, t, h, _, _, _, _, _, _ => ⟨h, rfl⟩
 | s :: l, s' :: l', .cons ha hl, S, S', N, t, h, hG, hG', hok, hok', ht, hr => by
  rw [ticksN] at hr
  have hs := step_rel hcf h hG hG' hok hok' ha (fun h9 => by
   rw [if_pos h9] at hr
   intro j hj h0
   rw [ht j hj, Int.emod_eq_of_lt (by omega) (by omega)] at h0
   exact h.r0 j hj (by rw [ht j hj]; exact h0))
  have := runs_first hcf hl _ _ (N + 1) (t + (if s.kind = 9 then 1 else 0)) hs.1 (step_good hG (by omega) hok hcf s) (step_good hG' (by omega) hok' hcf s') (step_ok hok hcf s) (step_ok hok' hcf s') (fun j hj => by
   rw [step_round s j hj, ht j hj]
   split <;> simp) (by omega)
  refine ⟨this.1, ?_⟩
  rw [runW, runW, List.map_cons, List.map_cons, this.2, hs.2.1]
end
section
open Go.RowKit
theorem has_apart {cs : Array Value} {o o' : Nat} {l l' : List Value} (h : Has cs o' l') (hd : o' + l'.length ≤ o ∨ o + l.length ≤ o') : Has (putAt cs o l) o' l' := by
 intro j u hj
 have hjl := (List.getElem?_eq_some_iff.1 hj).1
 rw [putAt_get, if_neg (by omega)]
 exact h j u hj
section
variable {w w' : World} {c : Cfg} {y : Lay} {S : WS} {K base : Nat} {ow : Nat → Tag}
theorem reOwn_old {t : Tag} {F : Nat → Bool} {k : Nat} (h : k < w.heap.size) : reOwn ow w w' t F k = ow k := by unfold reOwn; rw [if_pos h]
theorem reOwn_new {t : Tag} {F : Nat → Bool} {k : Nat} (h : w.heap.size ≤ k) (h' : k < w'.heap.size) (hF : F k = true) : reOwn ow w w' t F k = t := by unfold reOwn; rw [if_neg (by omega), if_pos ⟨h', hF⟩]
theorem reOwn_no {t : Tag} {F : Nat → Bool} {k : Nat} (h : w.heap.size ≤ k) (hF : F k = false) : reOwn ow w w' t F k = .no := by unfold reOwn; rw [if_neg (by omega), if_neg (by rw [hF]; simp)]
theorem PW.more {L : Nat} (h : PW w c y S K base ow) (hL : K ≤ L) : PW w c y S L base ow := by
 refine ⟨fun t => ?_, h.low, h.fresh, h.cfg, h.may, h.bw⟩
 have := h.pc t
 cases t with
 | off => obtain ⟨⟨v, ps, m, h1, h2, h3⟩, o1, o2⟩ := this; exact ⟨⟨v, ps, m, h1, Nat.le_trans h2 hL, h3⟩, o1, o2⟩
 | lst => obtain ⟨⟨m, h1, h2⟩, o⟩ := this; exact ⟨⟨m, h1, Nat.le_trans h2 hL⟩, o⟩
 | _ => exact this
def Turned (w : World) (c : Cfg) (y : Lay) (S' : WS) (K base : Nat) (ow : Nat → Tag) (w' : World) : Prop := ∃ ow', PW w' c y S' K base ow' ∧ Kept w w' ow ow'
theorem Turned.refl (h : PW w c y S K base ow) : Turned w c y S K base ow w := ⟨ow, h, Kept.refl _ _⟩
theorem Turned.calm (h : PW w c y S K base ow) (hb : Below w.heap.size w w') : Turned w c y S K base ow w' := ⟨ow, h.calm hb, Kept.calm hb⟩
theorem Turned.after {w1 w2 : World} {S' : WS} {K' : Nat} {ow1 : Nat → Tag} (k : Kept w w1 ow ow1) (h : Turned w1 c y S' K' base ow1 w2) : Turned w c y S' K' base ow w2 := by
 obtain ⟨ow2, h1, h2⟩ := h
 exact ⟨ow2, h1, k.trans h2⟩
theorem shelfDoW_any (od : Ordr) (i k : Nat) (h : PW w c y S K base ow) (hi : i < c.n) (hk : k < c.m) (L : Int) (hs : (S.sh i k).ok L) (hL : L ≤ 1000000 - 1) :
    Calls Tryz.prog 79 #[.pointer (some ⟨(y.br i).s, k * 4, none⟩), od.val] w fun e w' => e = .returned ((S.sh i k).does od).2.val ∧ Turned w c y { S with sh := upd1 S.sh i (upd1 (S.sh i) k ((S.sh i k).does od).1) } K base ow w' := by
 obtain ⟨⟨cs, vs, h1, h2⟩, o⟩ := h.pc (.sh i) hi
 obtain ⟨ha, hv⟩ := h1 k hk
 refine (shelfDo_any base _ (k * 4) cs (S.sh i k) (vs k) w od L ha hs hL h.bw).mono ?_
 rintro e w' ⟨v', rfl, hx, ho, hf⟩
 have hD : ∀ b, b < w.heap.size → (b = (y.br i).s ∨ (vs k).ownBlock = some b) → ow b = .sh i := fun b hb hd => by
  rcases hd with rfl | hd
  ·exact o
  ·exact hv b hd
 refine ⟨rfl, _, h.turn (.sh i) (fun _ => true) (by simp) ho hD (fun u hu W own hp => ?_) ?_, Kept.turn _ _ (by simp) ho hD⟩
 ·cases u with
  | sh j =>
   have hji : j ≠ i := fun e => hu (by rw [e])
   show j < c.n → ShRow W base (y.br j).s c.m (upd1 S.sh i _ j) own
   rw [upd1_ne _ _ hji]
   exact hp
  | _ => exact hp
 ·intro _
  show ShRow w' base (y.br i).s c.m (upd1 S.sh i _ i) _
  rw [upd1_at]
  have hlen : ∀ (s : Shf) (v : Value), (s.cells v).length = 4 := fun _ _ => rfl
  have hvl : ∀ j, j < c.m → ∀ b, (vs j).ownBlock = some b → b < w.heap.size := fun j hj b hb => ((h1 j hj).1.own.lt b hb).2
  refine ⟨⟨putAt cs (k * 4) (((S.sh i k).does od).1.cells v'), upd1 vs k v', fun j hj => ?_, fun j j' hj hj' hne b hb => ?_⟩, by rw [reOwn_old ha.blk.lt]; exact o⟩
  ·by_cases hjk : j = k
   ·subst hjk
    rw [upd1_at, upd1_at]
    refine ⟨hx, fun b hb => ?_⟩
    rcases hf b hb with h3 | h3
    ·rw [reOwn_old (hvl j hk b h3)]; exact hv b h3
    ·exact reOwn_new h3 (hx.own.lt b hb).2 rfl
   ·rw [upd1_ne _ _ hjk, upd1_ne _ _ hjk]
    obtain ⟨hb1, hb2⟩ := h1 j hj
    refine ⟨⟨hx.blk, has_apart hb1.has (by rw [hlen, hlen]; omega), own_only hb1.own ho fun b hb hd => ?_⟩, fun b hb => by rw [reOwn_old (hvl j hj b hb)]; exact hb2 b hb⟩
    rcases hd with rfl | hd
    ·exact hb1.ne hb
    ·exact h2 j k hj hk hjk b hb hd
  ·by_cases hjk : j = k
   ·subst hjk
    rw [upd1_at] at hb
    rw [upd1_ne _ _ (fun e => hne e.symm)]
    rcases hf b hb with h3 | h3
    ·exact h2 j j' hj hj' hne b h3
    ·exact fun e => by have := hvl j' hj' b e; omega
   ·rw [upd1_ne _ _ hjk] at hb
    by_cases hjk' : j' = k
    ·subst hjk'
     rw [upd1_at]
     intro e
     rcases hf b e with h3 | h3
     ·exact h2 j j' hj hj' hne b hb h3
     ·have := hvl j hj b hb; omega
    ·rw [upd1_ne _ _ hjk']
     exact h2 j j' hj hj' hne b hb
theorem PW.setGn (h : PW w c y S K base ow) {i k : Nat} (hi : i < c.n) (hk : k < (S.gn i).length) (x : Int) : Turned w c y { S with gn := upd1 S.gn i ((S.gn i).set k x) } K base ow (w.setCell ⟨(y.br i).g, k, none⟩ (.int .i64 x)) := by
 have hr := h.pc (.gn i) hi
 have ho : Only (fun b => b = (y.br i).g) w (w.setCell ⟨(y.br i).g, k, none⟩ (.int .i64 x)) := only_put (Only.refl _ w) k _
 have hD : ∀ b, b < w.heap.size → b = (y.br i).g → ow b = .gn i := fun b _ e => by rw [e]; exact hr.o
 refine ⟨_, h.turn (.gn i) (fun _ => false) (by simp) ho hD (fun u hu W own hp => ?_) ?_, Kept.turn _ _ (by simp) ho hD⟩
 ·cases u with
  | gn j =>
   have hji : j ≠ i := fun e => hu (by rw [e])
   show j < c.n → NumRow W base (y.br j).g (upd1 S.gn i _ j) own
   rw [upd1_ne _ _ hji]
   exact hp
  | _ => exact hp
 ·intro _
  show NumRow _ base (y.br i).g (upd1 S.gn i _ i) _
  rw [upd1_at]
  exact ⟨IRow.set_ hr.row hk x, hr.low, by rw [reOwn_old (Blk.lt hr.row)]; exact hr.o⟩
theorem PW.setAsk (h : PW w c y S K base ow) {i k : Nat} (hi : i < c.n) (hk : k < (S.ask i).length) (x : Int) : Turned w c y { S with ask := upd1 S.ask i ((S.ask i).set k x) } K base ow (w.setCell ⟨(y.br i).a, k, none⟩ (.int .i64 x)) := by
 have hr := h.pc (.ask i) hi
 have ho : Only (fun b => b = (y.br i).a) w (w.setCell ⟨(y.br i).a, k, none⟩ (.int .i64 x)) := only_put (Only.refl _ w) k _
 have hD : ∀ b, b < w.heap.size → b = (y.br i).a → ow b = .ask i := fun b _ e => by rw [e]; exact hr.o
 refine ⟨_, h.turn (.ask i) (fun _ => false) (by simp) ho hD (fun u hu W own hp => ?_) ?_, Kept.turn _ _ (by simp) ho hD⟩
 ·cases u with
  | ask j =>
   have hji : j ≠ i := fun e => hu (by rw [e])
   show j < c.n → NumRow W base (y.br j).a (upd1 S.ask i _ j) own
   rw [upd1_ne _ _ hji]
   exact hp
  | _ => exact hp
 ·intro _
  show NumRow _ base (y.br i).a (upd1 S.ask i _ i) _
  rw [upd1_at]
  exact ⟨IRow.set_ hr.row hk x, hr.low, by rw [reOwn_old (Blk.lt hr.row)]; exact hr.o⟩
end
end
end Go.Proofs.YtbolcebmbpepdaaGreatDoor
