/- Contracts and plain facts, set together by program out of smaller texts. Conditions: none beyond what each theorem states. -/
import Derived.Test.YtbolcebmbpepdaaGreatDoorM31
import Derived.Test.YtbolcebmbpepdaaGreatDoorM15
namespace Go.Proofs.YtbolcebmbpepdaaGreatDoor
set_option linter.unusedVariables false
section
open Go.RowKit
def timeOk (K : Int) (R : List (List Ent)) : Prop := ∀ l ∈ R, ∀ e ∈ l, e.time ≤ K
structure GoodW (c : Cfg) (K : Int) (S : WS) : Prop where
 st : ∀ i, GoodR c (S.st i) ∧ timeOk K (S.st i)
 lts : ∀ p ∈ S.lts, p.fr < c.n → p.to_ < c.n → ∃ R, GoodR c R ∧ timeOk K R ∧ p.data = (zAv c p.fr p.to_ R).1
 top : ∀ f t, S.top f t ≤ S.lts.length
 lost : ∀ id, S.lost id = true → id < S.lts.length
theorem timeOk.mono {K L : Int} {R : List (List Ent)} (h : timeOk K R) (hL : K ≤ L) : timeOk L R := fun l hl e he => Int.le_trans (h l hl e he) hL
theorem GoodW.more {c : Cfg} {K L : Int} {S : WS} (h : GoodW c K S) (hL : K ≤ L) : GoodW c L S :=
 ⟨fun i => ⟨(h.st i).1, (h.st i).2.mono hL⟩, fun p hp h1 h2 => by
  obtain ⟨R, a, b, d⟩ := h.lts p hp h1 h2
  exact ⟨R, a, b.mono hL, d⟩, h.top, h.lost⟩
theorem zSm {a b : List Ent} {e : Ent} (h : e ∈ (zCz a b).1) : e ∈ a ∨ e ∈ b := by
 unfold zCz at h
 split at h
 ·split at h
  ·cases h
  ·exact zPa b a e h
 ·cases h
theorem GoodR.set_ {c : Cfg} {R : List (List Ent)} (h : GoodR c R) (k : Nat) {l : List Ent} (hm : mayP l = true) (hg : ∀ e ∈ l, zGu e) : GoodR c (R.set k l) := by
 refine ⟨by rw [List.length_set]; exact h.1, fun x hx => ?_, fun x hx => ?_⟩
 ·rcases List.mem_or_eq_of_mem_set hx with hx | rfl
  ·exact h.2.1 x hx
  ·exact hm
 ·rcases List.mem_or_eq_of_mem_set hx with hx | rfl
  ·exact h.2.2 x hx
  ·exact hg
theorem timeOk.set_ {K : Int} {R : List (List Ent)} (h : timeOk K R) (k : Nat) {l : List Ent} (hg : ∀ e ∈ l, e.time ≤ K) : timeOk K (R.set k l) := fun x hx => by
 rcases List.mem_or_eq_of_mem_set hx with hx | rfl
 ·exact h x hx
 ·exact hg
theorem zIh {c : Cfg} {K : Int} {R : List (List Ent)} (h : GoodR c R ∧ timeOk K R) (k : Nat) : ∀ e ∈ R.getD k [], zGu e ∧ e.time ≤ K :=
 zJt (P := fun l => ∀ e ∈ l, zGu e ∧ e.time ≤ K) (fun l hl e he => ⟨h.1.2.2 l hl e he, h.2 l hl e he⟩) (fun e he => by cases he) k
theorem zMs {c : Cfg} {K : Int} {R : List (List Ent)} (hR : GoodR c R ∧ timeOk K R) : ∀ (k : Nat) (q : List (List Ent)), GoodR c q ∧ timeOk K q → GoodR c (zEa R k q) ∧ timeOk K (zEa R k q)
 | 0, q, h => h
 | k + 1, q, h => by
  have ih := zMs hR k q h
  rw [zEa]
  have hm : ∀ e ∈ (zCz ((zEa R k q).getD k []) (R.getD k [])).1, zGu e ∧ e.time ≤ K := fun e he => by
   rcases zSm he with he | he
   ·exact zIh ih k e he
   ·exact zIh hR k e he
  exact ⟨ih.1.set_ k (zKc _ _) (fun e he => (hm e he).1), ih.2.set_ k (fun e he => (hm e he).2)⟩
theorem zWv {c : Cfg} {K : Int} {a b : Int} {R : List (List Ent)} (h : GoodR c R ∧ timeOk K R) : GoodR c (zEx c a b R) ∧ timeOk K (zEx c a b R) := by
 unfold zEx
 have hm : ∀ l ∈ (List.range c.la.zs.length).map (fun i => if i ∈ zAn a.toNat b.toNat c.la.zs 0 then R.getD i [] else []), ∃ i, l = R.getD i [] ∨ l = [] := fun l hl => by
  obtain ⟨i, _, rfl⟩ := List.mem_map.1 hl
  refine ⟨i, ?_⟩
  split
  ·exact .inl rfl
  ·exact .inr rfl
 refine ⟨⟨by simp [Cfg.ln], fun l hl => ?_, fun l hl e he => ?_⟩, fun l hl e he => ?_⟩
 ·obtain ⟨i, rfl | rfl⟩ := hm l hl
  ·exact zJt (P := fun l => mayP l = true) h.1.2.1 rfl i
  ·rfl
 ·obtain ⟨i, rfl | rfl⟩ := hm l hl
  ·exact (zIh h i e he).1
  ·cases he
 ·obtain ⟨i, rfl | rfl⟩ := hm l hl
  ·exact (zIh h i e he).2
  ·cases he
theorem GoodW.tells {c : Cfg} {K : Int} {S : WS} (h : GoodW c K S) (hcf : zAh c = true) {p : PoD} (hp : p ∈ S.lts) (hf : 0 ≤ p.fr ∧ p.fr < c.n) (ht : 0 ≤ p.to_ ∧ p.to_ < c.n) :
    ∃ R, (GoodR c R ∧ timeOk K R) ∧ p.data = (zAv c p.fr p.to_ R).1 ∧ zBv c p.fr p.to_ p.data = (zEx c p.fr p.to_ R, 0) := by
 obtain ⟨⟨hn, _⟩, _⟩ := zAj hcf
 obtain ⟨R, h1, h2, h3⟩ := h.lts p hp hf.2 ht.2
 refine ⟨R, ⟨h1, h2⟩, h3, ?_⟩
 rw [h3]
 exact (zGh hcf (by omega) (by omega) h1.1 h1.2.1 h1.2.2).2
theorem yCz (i : Nat) (l : List Int) (k : Nat) (S : WS) : (zBa i l k S).st = S.st ∧ (zBa i l k S).lts = S.lts ∧ (zBa i l k S).top = S.top ∧ (zBa i l k S).lost = S.lost := by
 obtain ⟨_, _, h2, _, h4, h5, h6⟩ := zIw i l S k
 exact ⟨h2, h4, h5, h6⟩
theorem yCj {c : Cfg} {K : Int} {S : WS} {N : Nat} (h : GoodW c K S) (hok : S.ok c N) (hcf : zAh c = true) {p : PoD} (hp : p ∈ S.lts) : GoodW c K (zFd c S p) := by
 obtain ⟨⟨hn, _⟩, _⟩ := zAj hcf
 obtain ⟨hf, ht, _, _⟩ := hok.lts p hp
 unfold zFd
 split
 ·exact ⟨h.st, h.lts, h.top, h.lost⟩
 rename_i h1
 split
 ·obtain ⟨e1, e2, e3, e4⟩ := yCz p.to_.toNat (zAp c p.data).1 (zAp c p.data).1.length S
  exact ⟨by rw [e1]; exact h.st, by rw [e2]; exact h.lts, by rw [e2, e3]; exact h.top, by rw [e2, e4]; exact h.lost⟩
 rename_i h2
 obtain ⟨R, hR, _, hh⟩ := h.tells hcf hp ⟨hf.1, by omega⟩ ⟨ht.1, by omega⟩
 rw [hh]
 refine ⟨fun i => ?_, h.lts, h.top, h.lost⟩
 show GoodR c (upd1 S.st p.to_.toNat _ i) ∧ timeOk K (upd1 S.st p.to_.toNat _ i)
 rw [zCe]
 split
 ·exact zMs (zWv hR) _ _ (h.st _)
 ·exact h.st i
theorem yCk {c : Cfg} {K : Int} {S : WS} (h : GoodW c K S) (hcf : zAh c = true) : GoodW c K (zGj c S).2 := by
 have hl : (zGj c S).2.lts = S.lts ++ (zAx c S.aged c.n ++ zBs c S c.n) := rfl
 refine ⟨h.st, fun p hp h1 h2 => ?_, fun f t => ?_, fun id hid => ?_⟩
 ·rw [hl] at hp
  rcases List.mem_append.1 hp with hp | hp
  ·exact h.lts p hp h1 h2
  ·rcases List.mem_append.1 hp with hp | hp
   ·unfold zAx at hp
    obtain ⟨i, hi, hp⟩ := List.mem_flatMap.1 hp
    rcases List.mem_cons.1 hp with rfl | hp
    ·exact absurd h2 (by dsimp only; omega)
    ·unfold zDx at hp
     obtain ⟨j, _, rfl⟩ := List.mem_map.1 hp
     exact ⟨S.st i, (h.st i).1, (h.st i).2, rfl⟩
   ·unfold zBs at hp
    obtain ⟨i, hi, rfl⟩ := List.mem_map.1 hp
    exact absurd h1 (by dsimp only; omega)
 ·have := h.top f t
  rw [hl, List.length_append]
  show S.top f t ≤ _
  omega
 ·have := h.lost id hid
  rw [hl, List.length_append]
  omega
theorem zYq {c : Cfg} {K : Int} {S : WS} (h : GoodW c K S) (p : PoD) (id : Int) (hid : id + 1 ≤ S.lts.length) : GoodW c K (S.opened p id) := by
 refine ⟨h.st, h.lts, fun f t => ?_, h.lost⟩
 show (if f = p.fr ∧ t = p.to_ then id + 1 else S.top f t) ≤ _
 split
 ·exact hid
 ·exact h.top f t
theorem due0 {S : WS} {id : Int} (h : dueW S id ≠ 6) : ∃ p, S.lts[id.toNat]? = some p ∧ 0 ≤ id ∧ id < S.lts.length := by
 unfold dueW at h
 split at h
 ·exact absurd rfl h
 rename_i h1
 cases hp : S.lts[id.toNat]? with
 | none => rw [hp] at h; exact absurd rfl h
 | some p =>
  have hlt := (List.getElem?_eq_some_iff.1 hp).1
  have h0 : 0 ≤ id := by
   refine Int.not_lt.1 fun e => h1 ?_
   unfold WS.to_ toP
   rw [if_pos e]
   decide
  exact ⟨p, rfl, h0, by omega⟩
theorem zTw {c : Cfg} {K : Int} {S : WS} {N : Nat} (h : GoodW c K S) (hok : S.ok c N) (hcf : zAh c = true) (id : Int) : GoodW c K (zCj c S id).2 := by
 unfold zCj
 split
 ·exact h
 rename_i h6
 obtain ⟨p, hp, h0, hlt⟩ := due0 h6
 rw [hp]
 dsimp only
 split
 ·exact h
 ·exact yCj (zYq h p id (by omega)) (zNt hok p id) hcf (List.mem_of_getElem? hp)
theorem put_good {c : Cfg} {K : Int} {S : WS} (h : GoodW c K S) (hK : 0 ≤ K) (i l : Nat) (who key value : Int) (hk : 0 ≤ key ∧ key < 8) (hv : 0 ≤ value ∧ value ≤ 255) :
    GoodW c (K + 1) { S with st := upd1 S.st i ((S.st i).set l (putE ((S.st i).getD l []) who key value false)) } := by
 refine ⟨fun a => ?_, fun p hp h1 h2 => ?_, h.top, h.lost⟩
 ·show GoodR c (upd1 S.st i _ a) ∧ timeOk (K + 1) (upd1 S.st i _ a)
  rw [zCe]
  split
  ·have hti : zGr ((S.st i).getD l []) 0 ≤ K := by
    have key : ∀ (L : List Ent) (t : Int), t ≤ K → (∀ e ∈ L, e.time ≤ K) → zGr L t ≤ K := by
     intro L
     induction L with
     | nil => intro t ht _; exact ht
     | cons x L ih =>
      intro t ht hL
      have hx := hL x (by simp)
      unfold zGr
      simp only [List.foldl_cons]
      refine ih _ ?_ (fun e he => hL e (by simp [he]))
      omega
    exact key _ 0 hK (fun e he => (zIh (h.st i) l e he).2)
   have hm : ∀ e ∈ putE ((S.st i).getD l []) who key value false, zGu e ∧ e.time ≤ K + 1 := fun e he => by
    rcases zSm he with he | he
    ·have := zIh (h.st i) l e he
     exact ⟨this.1, by omega⟩
    ·rw [List.mem_singleton] at he
     subst he
     exact ⟨⟨hk.2, hv.2⟩, by dsimp only; omega⟩
   exact ⟨(h.st i).1.set_ l (zKc _ _) (fun e he => (hm e he).1), ((h.st i).2.mono (by omega)).set_ l (fun e he => (hm e he).2)⟩
  ·exact ⟨(h.st a).1, (h.st a).2.mono (by omega)⟩
 ·obtain ⟨R, a, b, d⟩ := h.lts p hp h1 h2
  exact ⟨R, a, b.mono (by omega), d⟩
theorem zRw {c : Cfg} {K : Int} {S : WS} {N : Nat} (h : GoodW c K S) (hK : 0 ≤ K) (hok : S.ok c N) (hcf : zAh c = true) (s : StpI) : GoodW c (K + 1) (stepW c S s).2 := by
 have hm := h.more (L := K + 1) (by omega)
 have hsame : ∀ {S' : WS}, S'.st = S.st → S'.lts = S.lts → S'.top = S.top → S'.lost = S.lost → GoodW c (K + 1) S' := fun e1 e2 e3 e4 => ⟨by rw [e1]; exact hm.st, by rw [e2]; exact hm.lts, by rw [e2, e3]; exact hm.top, by rw [e2, e4]; exact hm.lost⟩
 unfold stepW
 split
 ·exact yCk hm hcf
 split
 ·exact zTw hm hok hcf s.id
 split
 ·split
  ·rename_i hd
   obtain ⟨p, hp, h0, hlt⟩ := due0 (S := S) (id := s.id) (by rw [hd]; decide)
   refine ⟨hm.st, hm.lts, hm.top, fun id hid => ?_⟩
   have hid' : (if id = s.id then true else S.lost id) = true := hid
   split at hid'
   ·rename_i e; rw [e]; exact hlt
   ·exact hm.lost id hid'
  ·exact hm
 split
 ·exact hm
 split
 ·exact hm
 unfold zAz
 split
 ·unfold zBu
  split
  ·exact hm
  rename_i hb
  split
  ·exact hm
  split
  ·rename_i hk7
   exact put_good h hK _ _ _ _ _ (by omega) (by omega)
  split
  ·exact hm
  ·exact hm
 split
 ·exact hm
 split
 ·split
  ·exact hm
  split
  ·exact hm
  ·exact hsame rfl rfl rfl rfl
 ·exact hsame rfl rfl rfl rfl
theorem zVv {c : Cfg} : GoodW c 0 (WS.new c) := by
 have key : ∀ l ∈ List.replicate c.ln ([] : List Ent), l = [] := fun l hl => (List.mem_replicate.1 hl).2
 refine ⟨fun i => ⟨⟨List.length_replicate, fun l hl => ?_, fun l hl e he => ?_⟩, fun l hl e he => ?_⟩, fun p hp => (by cases hp), fun f t => ?_, fun id h => by cases h⟩
 ·rw [key l hl]; rfl
 ·rw [key l hl] at he; cases he
 ·rw [key l hl] at he; cases he
 ·show (0 : Int) ≤ _
  omega
end
section
open Go.RowKit
theorem zJc {c : Cfg} (hcf : zAh c = true) {zs : List Int} (hl : zs.length = c.m) (hz : ∀ z ∈ zs, 0 ≤ z ∧ z ≤ 1048576) : (zCa c zs).1.length = (zDt (List.replicate c.m 21)).1.toNat := by
 obtain ⟨_, _, _, ⟨hm1, hm3⟩, _⟩ := zAj hcf
 have hbad : zs.any badN = false := by
  rw [List.any_eq_false]
  intro z hz'
  have := hz z hz'
  unfold badN
  simp
  omega
 unfold zCa
 rw [if_neg (by rw [hcf]; simp), if_neg (by unfold Cfg.m at hl; omega), if_neg (by rw [hbad]; simp)]
 unfold zEh
 have hfst : (zs.map fun z : Int => ((21 : Int), z)).map (·.1) = List.replicate c.m 21 := by
  rw [List.map_map, ← hl]
  exact List.map_const'
 rw [hfst]
 have h0 : (zDt (List.replicate c.m 21)).2 = 0 := by
  obtain h | h | h | h : c.m = 0 ∨ c.m = 1 ∨ c.m = 2 ∨ c.m = 3 := by omega
  all_goals rw [h]; decide
 have hfit : (zs.map fun z : Int => ((21 : Int), z)).all zGs = true := by
  rw [List.all_eq_true]
  intro f hf
  obtain ⟨z, hz', rfl⟩ := List.mem_map.1 hf
  have := hz z hz'
  have h21 : (2 : Int) ^ (21 : Int).toNat = 2097152 := by decide
  unfold zGs
  dsimp only
  rw [h21, decide_eq_true_eq]
  omega
 rw [if_neg (by rw [h0]; simp), if_pos hfit]
 simp [bytesOf]
section
variable {c : Cfg} {S S' : WS} {x N : Nat}
theorem zMa (hok : S.ok c N) (hcf : zAh c = true) (i : Nat) (hi : i < c.n) : (zBq c S c.m i).length = c.m ∧ ∀ z ∈ zBq c S c.m i, 0 ≤ z ∧ z ≤ 1048576 := by
 obtain ⟨_, _, _, _, hcap, _⟩ := zAj hcf
 unfold zBq
 refine ⟨by simp, fun z hz => ?_⟩
 obtain ⟨j, _, rfl⟩ := List.mem_map.1 hz
 have hr := zPc (ticks := c.tk) (hok.bk j) hcap
 have e : zHw c S j = (zBj c.cap c.tk (S.bk j)).1.granted := rfl
 rw [e]
 have h1 := zBf hr.lg hi
 have h2 := zBf hr.lw hi
 have h3 := hr.gw i _ _ h1 h2
 have h4 := hr.g _ (List.mem_of_getElem? h1)
 have h5 := hr.w _ (List.mem_of_getElem? h2)
 omega
theorem zUa (hcf : zAh c = true) (h : Rel c x S S') (hG : ∀ i, GoodR c (S.st i)) (hG' : ∀ i, GoodR c (S'.st i)) (hok : S.ok c N) (hok' : S'.ok c N) (hg : ∀ j, j < c.m → ∀ i : Nat, x.testBit i = true → (zHw c S j).getD i 0 = (zHw c S' j).getD i 0) :
    All2 (zPm c x) (zAx c S.aged c.n ++ zBs c S c.n) (zAx c S'.aged c.n ++ zBs c S' c.n) := by
 refine All2.append ?_ ?_
 ·unfold zAx
  refine All2.flatMap _ _ _ fun i hi => ?_
  have hi' := List.mem_range.1 hi
  unfold zLm
  refine .cons ?_ ?_
  ·refine ⟨rfl, rfl, ?_, ?_, fun _ h2 => ?_⟩
   ·show (zCa c (S.ask i)).1.length = (zCa c (S'.ask i)).1.length
    rw [zJc hcf (hok.ask i).1 (hok.ask i).2, zJc hcf (hok'.ask i).1 (hok'.ask i).2]
   ·rintro (⟨_, h2⟩ | ⟨h2, _⟩)
    ·show (zCa c (S.ask i)).1 = (zCa c (S'.ask i)).1
     rw [h.ask i (by simpa using h2)]
    ·exact absurd h2 (by dsimp only; omega)
   ·exact absurd h2 (by dsimp only; omega)
  ·unfold zDx
   refine All2.map _ _ _ fun j hj => ?_
   have hj' := List.mem_range.1 (List.mem_filter.1 hj).1
   have hra := zVo (x := x) (a := i) (b := j) hcf hi' hj' (hG i) (hG' i) (fun l hl => h.st i l hl)
   refine ⟨rfl, rfl, hra.1, ?_, fun _ _ => ⟨S.st i, S'.st i, rfl, rfl, hG i, hG' i, fun l hl => h.st i l hl⟩⟩
   rintro (⟨_, h2⟩ | ⟨_, h2⟩)
   ·exact hra.2 (.inl (by simpa using h2))
   ·exact hra.2 (.inr (by simpa using h2))
 ·unfold zBs
  refine All2.map _ _ _ fun i hi => ?_
  have hi' := List.mem_range.1 hi
  refine ⟨rfl, rfl, ?_, ?_, fun h1 _ => absurd h1 (by dsimp only; omega)⟩
  ·show (zCa c (zBq c S c.m i)).1.length = (zCa c (zBq c S' c.m i)).1.length
   rw [zJc hcf (zMa hok hcf i hi').1 (zMa hok hcf i hi').2, zJc hcf (zMa hok' hcf i hi').1 (zMa hok' hcf i hi').2]
  ·rintro (⟨h2, _⟩ | ⟨_, h2⟩)
   ·exact absurd h2 (by dsimp only; omega)
   ·show (zCa c (zBq c S c.m i)).1 = (zCa c (zBq c S' c.m i)).1
    have e : zBq c S c.m i = zBq c S' c.m i := by
     unfold zBq
     refine List.map_congr_left fun j hj => ?_
     exact hg j (List.mem_range.1 hj) i (by simpa using h2)
    rw [e]
theorem zVg : ∀ {l m : List PoD} (k : Nat), All2 (zPm c x) l m → envs k l = envs k m
 | _, _, _, .nil => rfl
 | _, _, k, .cons a h => by rw [envs, envs, zVg (k + 1) h, a.fr, a.to_, a.len]
theorem zLb {α β : Type} : ∀ (l : List α) (f g : α → Option β), (∀ a ∈ l, f a = g a) → l.filterMap f = l.filterMap g
 | [], _, _, _ => rfl
 | a :: l, f, g, h => by
  rw [List.filterMap_cons, List.filterMap_cons, h a (by simp), zLb l f g fun b hb => h b (by simp [hb])]
theorem tick_rel (hcf : zAh c = true) (h : Rel c x S S') (hG : ∀ i, GoodR c (S.st i)) (hG' : ∀ i, GoodR c (S'.st i)) (hok : S.ok c N) (hok' : S'.ok c N)
    (hr : ∀ j, j < c.m → (S.bk j).round % c.tk = 0 → (S.bk j).reserve = (S'.bk j).reserve) : Rel c x (zGj c S).2 (zGj c S').2 ∧ (zGj c S).1 = (zGj c S').1 := by
 have hb := fun j (hj : j < c.m) => (h.bk j hj).round c.cap c.tk (hr j hj)
 have hl := zUa hcf h hG hG' hok hok' (fun j hj i hi => (hb j hj).2.2 i hi)
 refine ⟨⟨fun i k hi => ?_, h.ask, h.gn, h.st, fun j hj => ?_, fun j hj h0 => ?_, h.lts.append hl, h.top, h.lost⟩, ?_⟩
 ·show ((S.sh i k).does zHo).1 = ((S'.sh i k).does zHo).1
  rw [h.sh i k hi]
 ·show BkQ x (if j < c.m then (zBj c.cap c.tk (S.bk j)).1 else S.bk j) (if j < c.m then (zBj c.cap c.tk (S'.bk j)).1 else S'.bk j)
  rw [if_pos hj, if_pos hj]
  exact (hb j hj).1
 ·exfalso
  have h1 : (if j < c.m then (zBj c.cap c.tk (S.bk j)).1 else S.bk j).round = 0 := h0
  rw [if_pos hj, zWs] at h1
  have := (hok.bk j).rd
  omega
 ·unfold zGj
  rw [h.lts.len, zVg _ hl]
  have e : zBh c S c.m = zBh c S' c.m := by
   unfold zBh
   refine zLb _ _ _ fun j hj => ?_
   have e2 : zDp c S j = zDp c S' j := (hb j (List.mem_range.1 hj)).2.1
   rw [e2]
  rw [e]
theorem zIy {α β : Type} : ∀ (l : List α) (f g : α → Option β), (∀ a ∈ l, (f a).isSome = (g a).isSome) → l.filterMap f = l.filterMap g → ∀ a ∈ l, f a = g a
 | [], _, _, _, _ => fun a ha => by cases ha
 | b :: l, f, g, h1, h2 => by
  have hb := h1 b (by simp)
  cases hf : f b with
  | none =>
   rw [hf] at hb
   have hg : g b = none := by cases hg : g b with
    | none => rfl
    | some y => rw [hg] at hb; cases hb
   rw [List.filterMap_cons_none hf, List.filterMap_cons_none hg] at h2
   intro a ha
   rcases List.mem_cons.1 ha with rfl | ha
   ·rw [hf, hg]
   ·exact zIy l f g (fun a ha => h1 a (by simp [ha])) h2 a ha
  | some y =>
   rw [hf] at hb
   obtain ⟨z, hg⟩ : ∃ z, g b = some z := by cases hg : g b with
    | none => rw [hg] at hb; cases hb
    | some z => exact ⟨z, rfl⟩
   rw [List.filterMap_cons_some hf, List.filterMap_cons_some hg] at h2
   injection h2 with h3 h4
   intro a ha
   rcases List.mem_cons.1 ha with rfl | ha
   ·rw [hf, hg, h3]
   ·exact zIy l f g (fun a ha => h1 a (by simp [ha])) h4 a ha
theorem zUz (h : Rel c x S S') (hok : S.ok c N) (hok' : S'.ok c N) (he : zBh c S c.m = zBh c S' c.m) : ∀ j, j < c.m → (S.bk j).round % c.tk = 0 → (S.bk j).reserve = (S'.bk j).reserve := by
 intro j hj h0
 have key : ∀ (T : WS) (a : Nat), zDp c T a = if (T.bk a).round % c.tk = 0 then (T.bk a).reserve else -1 := fun T a => rfl
 have hs : ∀ a ∈ List.range c.m, ((if 0 ≤ zDp c S a then some (zDp c S a) else none : Option Int)).isSome = ((if 0 ≤ zDp c S' a then some (zDp c S' a) else none : Option Int)).isSome := fun a ha => by
  have hrd := (h.bk a (List.mem_range.1 ha)).rd
  rw [key, key, ← hrd]
  have h1 := (hok.bk a).res.1
  have h2 := (hok'.bk a).res.1
  by_cases hc : (S.bk a).round % c.tk = 0
  ·rw [if_pos hc, if_pos hc, if_pos h1, if_pos h2]; rfl
  ·rw [if_neg hc, if_neg hc]
 have := zIy _ _ _ hs he j (List.mem_range.2 hj)
 have hrd := (h.bk j hj).rd
 rw [key, key, ← hrd, if_pos h0, if_pos h0, if_pos (hok.bk j).res.1, if_pos (hok'.bk j).res.1] at this
 exact Option.some.inj this
theorem zZh (h : Rel c x S S') (id : Int) : dueW S id = dueW S' id := by
 unfold dueW WS.to_ toP
 by_cases h0 : id < 0
 ·rw [if_pos h0, if_pos h0]
  rfl
 ·rw [if_neg h0, if_neg h0]
  rcases h.lts.get id.toNat with ⟨e1, e2⟩ | ⟨a, b, e1, e2, hp⟩
  ·rw [e1, e2]
  ·rw [e1, e2]
   dsimp only
   simp only [hp.to_, hp.fr, h.top, h.lost]
theorem Rel.opened (h : Rel c x S S') {p p' : PoD} (hp : zPm c x p p') (id : Int) : Rel c x (S.opened p id) (S'.opened p' id) := by
 refine ⟨h.sh, h.ask, h.gn, h.st, h.bk, h.r0, h.lts, ?_, h.lost⟩
 unfold WS.opened
 rw [hp.fr, hp.to_, h.top]
theorem zJw (S : WS) (fr : Nat) (l : List Int) (k j : Nat) : (S.wants fr l k).bk j = if j < k then zEs (S.bk j) fr (l.getD j 0) else S.bk j := rfl
theorem come_rel (hcf : zAh c = true) (h : Rel c x S S') {p p' : PoD} (hp : zPm c x p p') (hfr : 0 ≤ p.fr ∧ p.fr ≤ c.n) (hto : 0 ≤ p.to_ ∧ p.to_ ≤ c.n) (hft : p.fr = c.n → p.to_ < c.n) (hG : ∀ i, GoodR c (S.st i)) (hG' : ∀ i, GoodR c (S'.st i)) : Rel c x (zFd c S p) (zFd c S' p') := by
 obtain ⟨⟨hn, _⟩, _⟩ := zAj hcf
 unfold zFd
 rw [← hp.to_, ← hp.fr]
 by_cases h1 : p.to_ = c.br
 ·rw [if_pos h1, if_pos h1]
  have hb : ∀ j, j < c.m → BkQ x ((S.wants p.fr.toNat (zAp c p.data).1 (zAp c p.data).1.length).bk j) ((S'.wants p.fr.toNat (zAp c p'.data).1 (zAp c p'.data).1.length).bk j) := fun j hj => by
   have hq := h.bk j hj
   cases hx : x.testBit p.fr.toNat with
   | true =>
    have hd := hp.same (.inl ⟨by omega, hx⟩)
    rw [← hd, zJw, zJw]
    split
    ·exact hq.want _ _ _ (fun _ => rfl)
    ·exact hq
   | false =>
    rw [zJw, zJw]
    split <;> split
    ·exact (hq.wantL _ _ hx).wantR _ _ hx
    ·exact hq.wantL _ _ hx
    ·exact hq.wantR _ _ hx
    ·exact hq
  refine ⟨h.sh, h.ask, h.gn, h.st, hb, fun j hj h0 => ?_, h.lts, h.top, h.lost⟩
  have e : ∀ (T : WS) (l : List Int), ((T.wants p.fr.toNat l l.length).bk j).round = (T.bk j).round ∧ ((T.wants p.fr.toNat l l.length).bk j).reserve = (T.bk j).reserve := fun T l => by
   rw [zJw]
   split
   ·exact ⟨rfl, rfl⟩
   ·exact ⟨rfl, rfl⟩
  rw [(e _ _).1] at h0
  rw [(e _ _).2, (e _ _).2]
  exact h.r0 j hj h0
 rw [if_neg h1, if_neg h1]
 by_cases h2 : p.fr = c.br
 ·rw [if_pos h2, if_pos h2]
  obtain ⟨a1, a2, a3, a4, a5, a6, a7⟩ := zIw p.to_.toNat (zAp c p.data).1 S (zAp c p.data).1.length
  obtain ⟨b1, b2, b3, b4, b5, b6, b7⟩ := zIw p.to_.toNat (zAp c p'.data).1 S' (zAp c p'.data).1.length
  have key : ∀ i, x.testBit i = true → (zBa p.to_.toNat (zAp c p.data).1 (zAp c p.data).1.length S).sh i = (zBa p.to_.toNat (zAp c p'.data).1 (zAp c p'.data).1.length S').sh i ∧ (zBa p.to_.toNat (zAp c p.data).1 (zAp c p.data).1.length S).gn i = (zBa p.to_.toNat (zAp c p'.data).1 (zAp c p'.data).1.length S').gn i := fun i hi => by
   by_cases hii : i = p.to_.toNat
   ·have hd := hp.same (.inr ⟨hft (by omega), by rw [← hii]; exact hi⟩)
    rw [← hd, hii]
    rw [hii] at hi
    exact zPk _ _ _ _ (funext fun k => h.sh _ k hi) (h.gn _ hi) _
   ·rw [(a1 i hii).1, (a1 i hii).2, (b1 i hii).1, (b1 i hii).2]
    exact ⟨funext fun k => h.sh i k hi, h.gn i hi⟩
  refine ⟨fun i k hi => by rw [(key i hi).1], fun i hi => by rw [a2, b2]; exact h.ask i hi, fun i hi => (key i hi).2, fun i l hl => by rw [a3, b3]; exact h.st i l hl, fun j hj => by rw [a4, b4]; exact h.bk j hj, fun j hj => by rw [a4, b4]; exact h.r0 j hj, by rw [a5, b5]; exact h.lts, by rw [a6, b6]; exact h.top, by rw [a7, b7]; exact h.lost⟩
 ·rw [if_neg h2, if_neg h2]
  have hf : p.fr < c.n := by omega
  have ht : p.to_ < c.n := by omega
  obtain ⟨R, R', e1, e2, g1, g2, hR⟩ := hp.rum hf ht
  have t1 := (zGh (a := p.fr) (b := p.to_) hcf (by omega) (by omega) g1.1 g1.2.1 g1.2.2).2
  have t2 := (zGh (a := p.fr) (b := p.to_) hcf (by omega) (by omega) g2.1 g2.2.1 g2.2.2).2
  rw [e1, e2, t1, t2]
  dsimp only
  have hH : ∀ (R : List (List Ent)), (zEx c p.fr p.to_ R).length = c.ln := fun R => by unfold zEx; simp [Cfg.ln]
  have hHk : ∀ (R : List (List Ent)) (k : Nat), k < c.ln → (zEx c p.fr p.to_ R).getD k [] = if k ∈ zAn p.fr.toNat p.to_.toNat c.la.zs 0 then R.getD k [] else [] := fun R k hk => by
   unfold zEx
   rw [List.getD_eq_getElem?_getD, List.getElem?_map, List.getElem?_range (by unfold Cfg.ln at hk; exact hk)]
   rfl
  refine ⟨h.sh, h.ask, h.gn, fun i l hl => ?_, h.bk, h.r0, h.lts, h.top, h.lost⟩
  show (upd1 S.st p.to_.toNat _ i).getD l [] = (upd1 S'.st p.to_.toNat _ i).getD l []
  rw [zCe, zCe]
  by_cases hi : i = p.to_.toNat
  ·rw [if_pos hi, if_pos hi]
   have q1 := (zIi (zEx c p.fr p.to_ R) (zEx c p.fr p.to_ R).length (S.st p.to_.toNat) l).2
   have q2 := (zIi (zEx c p.fr p.to_ R') (zEx c p.fr p.to_ R').length (S'.st p.to_.toNat) l).2
   rw [hH, (hG _).1] at q1
   rw [hH, (hG' _).1] at q2
   rw [hH, hH, q1, q2]
   by_cases hlt : l < c.ln ∧ l < c.ln
   ·rw [if_pos hlt, if_pos hlt, hHk R l hlt.1, hHk R' l hlt.1, hR l hl, h.st _ l hl]
   ·rw [if_neg hlt, if_neg hlt, h.st _ l hl]
  ·rw [if_neg hi, if_neg hi]
   exact h.st i l hl
def SameM (c : Cfg) (x : Nat) (d d' : TolD) : Prop := zEc c.n x d = zEc c.n x d' ∧ d.report = d'.report
theorem SameM.of_eq {d d' : TolD} (h : d = d') : SameM c x d d' := by rw [h]; exact ⟨rfl, rfl⟩
theorem SameM.hid {d d' : TolD} (hm : zFs c.n x d.who = false) (hw : d.who = d'.who) (hs : d.sent = d'.sent) (hr : d.report = d'.report) : SameM c x d d' := by
 refine ⟨?_, hr⟩
 unfold zEc
 rw [if_neg (by rw [hm]; simp), if_neg (by rw [← hw, hm]; simp), hw, hs, hr]
theorem zWt (hcf : zAh c = true) (h : Rel c x S S') (hok : S.ok c N) (hG : ∀ i, GoodR c (S.st i)) (hG' : ∀ i, GoodR c (S'.st i)) (id : Int) : Rel c x (zCj c S id).2 (zCj c S' id).2 ∧ SameM c x (zCj c S id).1 (zCj c S' id).1 := by
 unfold zCj
 rw [← zZh h id]
 by_cases h6 : dueW S id = 6
 ·rw [if_pos h6, if_pos h6]
  exact ⟨h, .of_eq rfl⟩
 rw [if_neg h6, if_neg h6]
 rcases h.lts.get id.toNat with ⟨e1, e2⟩ | ⟨p, p', e1, e2, hp⟩
 ·rw [e1, e2]
  exact ⟨h, .of_eq rfl⟩
 rw [e1, e2]
 dsimp only
 by_cases h0 : dueW S id ≠ 0
 ·rw [if_pos h0, if_pos h0, hp.to_]
  exact ⟨h, .of_eq rfl⟩
 rw [if_neg h0, if_neg h0]
 obtain ⟨hf, ht, _, hft⟩ := hok.lts p (List.mem_of_getElem? e1)
 refine ⟨come_rel hcf (h.opened hp id) hp hf ht hft hG hG', ?_⟩
 cases hm : zFs c.n x p.to_ with
 | false => exact .hid hm hp.to_ rfl rfl
 | true =>
  unfold zFs at hm
  simp only [Bool.and_eq_true, decide_eq_true_eq] at hm
  rw [hp.same (.inr ⟨hm.1.2, hm.2⟩), hp.to_]
  exact .of_eq rfl
end
end
section
open Go.RowKit
section
variable {c : Cfg} {S S' T T' : WS} {x N : Nat}
structure Unseen (c : Cfg) (x : Nat) (S T : WS) : Prop where
 sh : ∀ i k, x.testBit i = true → T.sh i k = S.sh i k
 ask : ∀ i, x.testBit i = true → T.ask i = S.ask i
 gn : ∀ i, x.testBit i = true → T.gn i = S.gn i
 st : ∀ i l, tch c x l → (T.st i).getD l [] = (S.st i).getD l []
 bk : T.bk = S.bk
 lts : T.lts = S.lts
 top : T.top = S.top
 lost : T.lost = S.lost
theorem Unseen.refl (c : Cfg) (x : Nat) (S : WS) : Unseen c x S S := ⟨fun _ _ _ => rfl, fun _ _ => rfl, fun _ _ => rfl, fun _ _ _ => rfl, rfl, rfl, rfl, rfl⟩
theorem Rel.unseen (h : Rel c x S S') (a : Unseen c x S T) (b : Unseen c x S' T') : Rel c x T T' :=
 ⟨fun i k hi => by rw [a.sh i k hi, b.sh i k hi, h.sh i k hi], fun i hi => by rw [a.ask i hi, b.ask i hi, h.ask i hi], fun i hi => by rw [a.gn i hi, b.gn i hi, h.gn i hi], fun i l hl => by rw [a.st i l hl, b.st i l hl, h.st i l hl], fun j hj => by rw [a.bk, b.bk]; exact h.bk j hj, fun j hj => by rw [a.bk, b.bk]; exact h.r0 j hj, by rw [a.lts, b.lts]; exact h.lts, by rw [a.top, b.top]; exact h.top, by rw [a.lost, b.lost]; exact h.lost⟩
theorem BkQ.refl (x : Nat) (s : BkS) : BkQ x s s := ⟨rfl, rfl, rfl, rfl, fun _ _ => rfl, fun _ _ => rfl, fun _ _ => rfl⟩
theorem Rel.new (c : Cfg) (x : Nat) : Rel c x (WS.new c) (WS.new c) := ⟨fun _ _ _ => rfl, fun _ _ => rfl, fun _ _ => rfl, fun _ _ _ => rfl, fun _ _ => .refl _ _, fun _ _ _ => rfl, .nil, rfl, rfl⟩
theorem yAk (s : StpI) (i : Nat) : (zBu c S s i).1.who = i ∧ (zBu c S s i).1.sent = [] ∧ (zBu c S s i).1.report = [] := by
 unfold zBu
 split
 ·exact ⟨rfl, rfl, rfl⟩
 split
 ·exact ⟨rfl, rfl, rfl⟩
 split
 ·exact ⟨rfl, rfl, rfl⟩
 split <;> exact ⟨rfl, rfl, rfl⟩
theorem zFy (s : StpI) (i : Nat) : (zAz c S s i).1.who = i ∧ (zAz c S s i).1.sent = [] ∧ (zAz c S s i).1.report = [] := by
 unfold zAz
 split
 ·exact yAk s i
 split
 ·exact ⟨rfl, rfl, rfl⟩
 split
 ·split
  ·exact ⟨rfl, rfl, rfl⟩
  split <;> exact ⟨rfl, rfl, rfl⟩
 ·exact ⟨rfl, rfl, rfl⟩
theorem zNv (q : List (List Ent)) (k l : Nat) (v : List Ent) : (q.set k v).getD l [] = if k = l ∧ l < q.length then v else q.getD l [] := by
 rw [List.getD_eq_getElem?_getD, List.getElem?_set, List.getD_eq_getElem?_getD]
 by_cases h : k = l
 ·subst h
  rw [if_pos rfl]
  by_cases h2 : k < q.length
  ·rw [if_pos h2, if_pos ⟨rfl, h2⟩]; rfl
  ·rw [if_neg h2, if_neg (fun e => h2 e.2), List.getElem?_eq_none (by omega)]
 ·rw [if_neg h, if_neg (fun e => h e.1)]
theorem zEw (s : StpI) (i : Nat) (hx : x.testBit i = false) (hk : (s.kind = 7 ∨ s.kind = 8) → ¬ tch c x s.label.toNat) : Unseen c x S (zAz c S s i).2 := by
 have hne : ∀ a, x.testBit a = true → a ≠ i := fun a ha e => by rw [e, hx] at ha; cases ha
 unfold zAz
 split
 ·rename_i h7
  unfold zBu
  split
  ·exact .refl _ _ _
  split
  ·exact .refl _ _ _
  split
  ·refine ⟨fun _ _ _ => rfl, fun _ _ => rfl, fun _ _ => rfl, fun a l hl => ?_, rfl, rfl, rfl, rfl⟩
   show (upd1 S.st i _ a).getD l [] = _
   rw [zCe]
   split
   ·rename_i e
    rw [zNv, if_neg (fun e2 => hk h7 (by rw [e2.1]; exact hl)), e]
   ·rfl
  split
  ·exact .refl _ _ _
  ·exact .refl _ _ _
 split
 ·exact .refl _ _ _
 split
 ·split
  ·exact .refl _ _ _
  split
  ·exact .refl _ _ _
  ·refine ⟨fun _ _ _ => rfl, fun a ha => ?_, fun _ _ => rfl, fun a l hl => rfl, rfl, rfl, rfl, rfl⟩
   exact zDl _ _ (hne a ha)
 ·refine ⟨fun a k ha => ?_, fun _ _ => rfl, fun _ _ => rfl, fun a l hl => rfl, rfl, rfl, rfl, rfl⟩
  show upd1 S.sh i _ a k = _
  rw [zDl _ _ (hne a ha)]
theorem yEa (h : Rel c x S S') (hG : ∀ i, (S.st i).length = c.ln) (hG' : ∀ i, (S'.st i).length = c.ln) (s : StpI) (i : Nat) (ht : (c.la.zs.getD s.label.toNat 0).toNat.testBit i = true → tch c x s.label.toNat) : Rel c x (zBu c S s i).2 (zBu c S' s i).2 ∧ (zBu c S s i).1 = (zBu c S' s i).1 := by
 unfold zBu
 by_cases h1 : s.label < 0 ∨ (c.ln : Int) ≤ s.label ∨ s.key < 0 ∨ 8 ≤ s.key ∨ (s.kind = 7 ∧ (s.count < 0 ∨ 255 < s.count))
 ·rw [if_pos h1, if_pos h1]
  exact ⟨h, rfl⟩
 rw [if_neg h1, if_neg h1]
 by_cases h2 : (c.la.zs.getD s.label.toNat 0).toNat.testBit i = false
 ·rw [if_pos h2, if_pos h2]
  exact ⟨h, rfl⟩
 rw [if_neg h2, if_neg h2]
 have hr := h.st i _ (ht (by simpa using h2))
 rw [hr]
 by_cases h3 : s.kind = 7
 ·rw [if_pos h3, if_pos h3]
  refine ⟨⟨h.sh, h.ask, h.gn, fun a l hl => ?_, h.bk, h.r0, h.lts, h.top, h.lost⟩, rfl⟩
  show (upd1 S.st i _ a).getD l [] = (upd1 S'.st i _ a).getD l []
  rw [zCe, zCe]
  split
  ·rw [zNv, zNv, hG, hG']
   split
   ·rfl
   ·exact h.st i l hl
  ·exact h.st a l hl
 rw [if_neg h3, if_neg h3]
 split
 ·exact ⟨h, rfl⟩
 ·exact ⟨h, rfl⟩
theorem yAl (h : Rel c x S S') (hG : ∀ i, (S.st i).length = c.ln) (hG' : ∀ i, (S'.st i).length = c.ln) (s : StpI) (i : Nat) (hi : i < c.n) : Rel c x (zAz c S s i).2 (zAz c S' s i).2 ∧ SameM c x (zAz c S s i).1 (zAz c S' s i).1 := by
 by_cases h7 : s.kind = 7 ∨ s.kind = 8
 ·by_cases ht : (c.la.zs.getD s.label.toNat 0).toNat.testBit i = true → tch c x s.label.toNat
  ·have := yEa h hG hG' s i ht
   unfold zAz
   rw [if_pos h7, if_pos h7]
   exact ⟨this.1, .of_eq this.2⟩
  ·have hm : (c.la.zs.getD s.label.toNat 0).toNat.testBit i = true := by
    cases hc : (c.la.zs.getD s.label.toNat 0).toNat.testBit i with
    | true => rfl
    | false => exact absurd (fun e => by rw [hc] at e; cases e) ht
   have hn : ¬ tch c x s.label.toNat := fun e => ht fun _ => e
   have hx : x.testBit i = false := by
    cases hc : x.testBit i with
    | false => rfl
    | true => exact absurd ⟨i, hi, hc, hm⟩ hn
   refine ⟨h.unseen (zEw s i hx fun _ => hn) (zEw s i hx fun _ => hn), ?_⟩
   obtain ⟨a1, a2, a3⟩ := zFy (c := c) (S := S) s i
   obtain ⟨b1, b2, b3⟩ := zFy (c := c) (S := S') s i
   exact .hid (by unfold zFs; rw [a1, Int.toNat_natCast, hx, Bool.and_false]) (by rw [a1, b1]) (by rw [a2, b2]) (by rw [a3, b3])
 cases hx : x.testBit i with
 | false =>
  refine ⟨h.unseen (zEw s i hx fun e => absurd e h7) (zEw s i hx fun e => absurd e h7), ?_⟩
  obtain ⟨a1, a2, a3⟩ := zFy (c := c) (S := S) s i
  obtain ⟨b1, b2, b3⟩ := zFy (c := c) (S := S') s i
  exact .hid (by unfold zFs; rw [a1, Int.toNat_natCast, hx, Bool.and_false]) (by rw [a1, b1]) (by rw [a2, b2]) (by rw [a3, b3])
 | true =>
  unfold zAz
  rw [if_neg h7, if_neg h7, h.ask i hx, h.sh i _ hx]
  by_cases h1 : s.item < 0 ∨ (c.m : Int) ≤ s.item
  ·rw [if_pos h1, if_pos h1]
   exact ⟨h, .of_eq rfl⟩
  rw [if_neg h1, if_neg h1]
  by_cases h2 : s.kind = 1
  ·rw [if_pos h2, if_pos h2]
   split
   ·exact ⟨h, .of_eq rfl⟩
   split
   ·exact ⟨h, .of_eq rfl⟩
   ·refine ⟨⟨h.sh, fun a ha => ?_, h.gn, h.st, h.bk, h.r0, h.lts, h.top, h.lost⟩, .of_eq rfl⟩
    show upd1 S.ask i _ a = upd1 S'.ask i _ a
    rw [zCe, zCe]
    split
    ·rfl
    ·exact h.ask a ha
  ·rw [if_neg h2, if_neg h2]
   refine ⟨⟨fun a k ha => ?_, h.ask, h.gn, h.st, h.bk, h.r0, h.lts, h.top, h.lost⟩, .of_eq rfl⟩
   show upd1 S.sh i _ a k = upd1 S'.sh i _ a k
   rw [zCe, zCe]
   split
   ·rw [zCe, zCe]
    split
    ·rfl
    ·exact h.sh i k hx
   ·exact h.sh a k ha
def Alike (c : Cfg) (x : Nat) (s s' : StpI) : Prop :=
 s = s' ∨ (s.who = s'.who ∧ 0 ≤ s.who ∧ s.who < c.n ∧ x.testBit s.who.toNat = false ∧ ((1 ≤ s.kind ∧ s.kind ≤ 6 ∧ 1 ≤ s'.kind ∧ s'.kind ≤ 6) ∨ ((s.kind = 7 ∨ s.kind = 8) ∧ (s'.kind = 7 ∨ s'.kind = 8) ∧ s.label = s'.label ∧ ¬ tch c x s.label.toNat)))
theorem Alike.tick {s s' : StpI} (h : Alike c x s s') (hk : s.kind = 9) : s = s' := by
 rcases h with h | ⟨_, _, _, _, h | h⟩
 ·exact h
 ·omega
 ·omega
theorem zVk (hcf : zAh c = true) (s : StpI) (hk : 1 ≤ s.kind ∧ s.kind ≤ 8) (hw : 0 ≤ s.who ∧ s.who < c.n) : stepW c S s = zAz c S s s.who.toNat := by
 obtain ⟨⟨hn, _⟩, _⟩ := zAj hcf
 unfold stepW
 rw [if_neg (by omega), if_neg (by omega), if_neg (by omega), if_neg (by omega), if_neg (by omega)]
theorem step_rel (hcf : zAh c = true) (h : Rel c x S S') {K : Int} (hG : GoodW c K S) (hG' : GoodW c K S') (hok : S.ok c N) (hok' : S'.ok c N) {s s' : StpI} (ha : Alike c x s s')
    (hr : s.kind = 9 → ∀ j, j < c.m → (S.bk j).round % c.tk = 0 → (S.bk j).reserve = (S'.bk j).reserve) : Rel c x (stepW c S s).2 (stepW c S' s').2 ∧ SameM c x (stepW c S s).1 (stepW c S' s').1 := by
 obtain ⟨⟨hn, _⟩, _⟩ := zAj hcf
 rcases ha with rfl | ⟨hw, hw0, hwn, hx, hk⟩
 ·unfold stepW
  by_cases h9 : s.kind = 9
  ·rw [if_pos h9, if_pos h9]
   have := tick_rel hcf h (fun i => (hG.st i).1) (fun i => (hG'.st i).1) hok hok' (hr h9)
   exact ⟨this.1, .of_eq this.2⟩
  rw [if_neg h9, if_neg h9]
  by_cases h10 : s.kind = 10
  ·rw [if_pos h10, if_pos h10]
   exact zWt hcf h hok (fun i => (hG.st i).1) (fun i => (hG'.st i).1) s.id
  rw [if_neg h10, if_neg h10]
  by_cases h11 : s.kind = 11
  ·rw [if_pos h11, if_pos h11, zZh h]
   split
   ·refine ⟨⟨h.sh, h.ask, h.gn, h.st, h.bk, h.r0, h.lts, h.top, ?_⟩, .of_eq rfl⟩
    unfold WS.lose
    dsimp only
    rw [h.lost]
   ·exact ⟨h, .of_eq rfl⟩
  rw [if_neg h11, if_neg h11]
  by_cases h1 : s.kind < 1 ∨ 11 < s.kind
  ·rw [if_pos h1, if_pos h1]
   exact ⟨h, .of_eq rfl⟩
  rw [if_neg h1, if_neg h1]
  by_cases h2 : s.who < 0 ∨ c.br ≤ s.who
  ·rw [if_pos h2, if_pos h2]
   exact ⟨h, .of_eq rfl⟩
  rw [if_neg h2, if_neg h2]
  exact yAl h (fun i => (hG.st i).1.1) (fun i => (hG'.st i).1.1) s _ (by omega)
 ·have e1 := zVk (S := S) hcf s (by omega) ⟨hw0, hwn⟩
  have e2 := zVk (S := S') hcf s' (by omega) (by rw [← hw]; exact ⟨hw0, hwn⟩)
  rw [e1, e2, ← hw]
  have u1 : (s.kind = 7 ∨ s.kind = 8) → ¬ tch c x s.label.toNat := fun e => by
   rcases hk with hk | hk
   ·omega
   ·exact hk.2.2.2
  have u2 : (s'.kind = 7 ∨ s'.kind = 8) → ¬ tch c x s'.label.toNat := fun e => by
   rcases hk with hk | hk
   ·omega
   ·rw [← hk.2.2.1]; exact hk.2.2.2
  refine ⟨h.unseen (zEw s _ hx u1) (zEw s' _ hx u2), ?_⟩
  obtain ⟨a1, a2, a3⟩ := zFy (c := c) (S := S) s s.who.toNat
  obtain ⟨b1, b2, b3⟩ := zFy (c := c) (S := S') s' s.who.toNat
  exact .hid (by unfold zFs; rw [a1, Int.toNat_natCast, hx, Bool.and_false]) (by rw [a1, b1]) (by rw [a2, b2]) (by rw [a3, b3])
end
theorem zNn {c : Cfg} {x : Nat} (hcf : zAh c = true) : ∀ {l l' : List StpI}, All2 (Alike c x) l l' → ∀ (S S' : WS) (N : Nat), Rel c x S S' → GoodW c N S → GoodW c N S' → S.ok c N → S'.ok c N → (runW c l S).1.map (·.report) = (runW c l' S').1.map (·.report) →
    Rel c x (runW c l S).2 (runW c l' S').2 ∧ (runW c l S).1.map (zEc c.n x) = (runW c l' S').1.map (zEc c.n x)
 | _, _, .nil, S, S', N, h, _, _, _, _, _ => ⟨h, rfl⟩
 | s :: l, s' :: l', .cons ha hl, S, S', N, h, hG, hG', hok, hok', hr => by
  rw [runW, runW, List.map_cons, List.map_cons] at hr
  injection hr with h1 h2
  have hs := step_rel hcf h hG hG' hok hok' ha (fun h9 => by
   have e := ha.tick h9
   subst e
   have e1 : ∀ T, stepW c T s = zGj c T := fun T => if_pos h9
   rw [e1, e1] at h1
   exact zUz h hok hok' h1)
  have := zNn hcf hl _ _ (N + 1) hs.1 (zRw hG (by omega) hok hcf s) (zRw hG' (by omega) hok' hcf s') (step_ok hok hcf s) (step_ok hok' hcf s') h2
  refine ⟨this.1, ?_⟩
  rw [runW, runW, List.map_cons, List.map_cons, this.2, hs.2.1]
end
section
open Go.RowKit
theorem yDt {cs : Array Value} {o o' : Nat} {l l' : List Value} (h : Has cs o' l') (hd : o' + l'.length ≤ o ∨ o + l.length ≤ o') : Has (putAt cs o l) o' l' := by
 intro j u hj
 have hjl := (List.getElem?_eq_some_iff.1 hj).1
 rw [zGc, if_neg (by omega)]
 exact h j u hj
section
variable {w w' : World} {c : Cfg} {y : Lay} {S : WS} {K base : Nat} {ow : Nat → Tag}
theorem zCp {t : Tag} {F : Nat → Bool} {k : Nat} (h : k < w.heap.size) : zFt ow w w' t F k = ow k := by unfold zFt; rw [if_pos h]
theorem zIu {t : Tag} {F : Nat → Bool} {k : Nat} (h : w.heap.size ≤ k) (h' : k < w'.heap.size) (hF : F k = true) : zFt ow w w' t F k = t := by unfold zFt; rw [if_neg (by omega), if_pos ⟨h', hF⟩]
theorem zTu {t : Tag} {F : Nat → Bool} {k : Nat} (h : w.heap.size ≤ k) (hF : F k = false) : zFt ow w w' t F k = .no := by unfold zFt; rw [if_neg (by omega), if_neg (by rw [hF]; simp)]
theorem PW.more {L : Nat} (h : PW w c y S K base ow) (hL : K ≤ L) : PW w c y S L base ow := by
 refine ⟨fun t => ?_, h.low, h.fresh, h.cfg, h.may, h.bw⟩
 have := h.pc t
 cases t with
 | off => obtain ⟨⟨v, ps, m, h1, h2, h3⟩, o1, o2⟩ := this; exact ⟨⟨v, ps, m, h1, Nat.le_trans h2 hL, h3⟩, o1, o2⟩
 | lst => obtain ⟨⟨m, h1, h2⟩, o⟩ := this; exact ⟨⟨m, h1, Nat.le_trans h2 hL⟩, o⟩
 | _ => exact this
def Turned (w : World) (c : Cfg) (y : Lay) (S' : WS) (K base : Nat) (ow : Nat → Tag) (w' : World) : Prop := ∃ ow', PW w' c y S' K base ow' ∧ Kept w w' ow ow'
theorem zJn (od : Ordr) (i k : Nat) (h : PW w c y S K base ow) (hi : i < c.n) (hk : k < c.m) (L : Int) (hs : (S.sh i k).ok L) (hL : L ≤ 1000000 - 1) :
    Calls Tryz.prog 79 #[.pointer (some ⟨(y.br i).s, k * 4, none⟩), od.val] w fun e w' => e = .returned ((S.sh i k).does od).2.val ∧ Turned w c y { S with sh := upd1 S.sh i (upd1 (S.sh i) k ((S.sh i k).does od).1) } K base ow w' := by
 obtain ⟨⟨cs, vs, h1, h2⟩, o⟩ := h.pc (.sh i) hi
 obtain ⟨ha, hv⟩ := h1 k hk
 refine (zWp base _ (k * 4) cs (S.sh i k) (vs k) w od L ha hs hL h.bw).mono ?_
 rintro e w' ⟨v', rfl, hx, ho, hf⟩
 have hD : ∀ b, b < w.heap.size → (b = (y.br i).s ∨ (vs k).ownBlock = some b) → ow b = .sh i := fun b hb hd => by
  rcases hd with rfl | hd
  ·exact o
  ·exact hv b hd
 refine ⟨rfl, _, h.turn (.sh i) (fun _ => true) (by simp) ho hD (fun u hu W own hp => ?_) ?_, Kept.turn _ _ (by simp) ho hD⟩
 ·cases u with
  | sh j =>
   have hji : j ≠ i := fun e => hu (by rw [e])
   show j < c.n → ShRow W base (y.br j).s c.m (upd1 S.sh i _ j) own
   rw [zDl _ _ hji]
   exact hp
  | _ => exact hp
 ·intro _
  show ShRow w' base (y.br i).s c.m (upd1 S.sh i _ i) _
  rw [zDg]
  have hlen : ∀ (s : Shf) (v : Value), (s.cells v).length = 4 := fun _ _ => rfl
  have hvl : ∀ j, j < c.m → ∀ b, (vs j).ownBlock = some b → b < w.heap.size := fun j hj b hb => ((h1 j hj).1.own.lt b hb).2
  refine ⟨⟨putAt cs (k * 4) (((S.sh i k).does od).1.cells v'), upd1 vs k v', fun j hj => ?_, fun j j' hj hj' hne b hb => ?_⟩, by rw [zCp ha.blk.lt]; exact o⟩
  ·by_cases hjk : j = k
   ·subst hjk
    rw [zDg, zDg]
    refine ⟨hx, fun b hb => ?_⟩
    rcases hf b hb with h3 | h3
    ·rw [zCp (hvl j hk b h3)]; exact hv b h3
    ·exact zIu h3 (hx.own.lt b hb).2 rfl
   ·rw [zDl _ _ hjk, zDl _ _ hjk]
    obtain ⟨hb1, hb2⟩ := h1 j hj
    refine ⟨⟨hx.blk, yDt hb1.has (by rw [hlen, hlen]; omega), zAk hb1.own ho fun b hb hd => ?_⟩, fun b hb => by rw [zCp (hvl j hj b hb)]; exact hb2 b hb⟩
    rcases hd with rfl | hd
    ·exact hb1.ne hb
    ·exact h2 j k hj hk hjk b hb hd
  ·by_cases hjk : j = k
   ·subst hjk
    rw [zDg] at hb
    rw [zDl _ _ (fun e => hne e.symm)]
    rcases hf b hb with h3 | h3
    ·exact h2 j j' hj hj' hne b h3
    ·exact fun e => by have := hvl j' hj' b e; omega
   ·rw [zDl _ _ hjk] at hb
    by_cases hjk' : j' = k
    ·subst hjk'
     rw [zDg]
     intro e
     rcases hf b e with h3 | h3
     ·exact h2 j j' hj hj' hne b hb h3
     ·have := hvl j hj b hb; omega
    ·rw [zDl _ _ hjk']
     exact h2 j j' hj hj' hne b hb
theorem PW.setGn (h : PW w c y S K base ow) {i k : Nat} (hi : i < c.n) (hk : k < (S.gn i).length) (x : Int) : Turned w c y { S with gn := upd1 S.gn i ((S.gn i).set k x) } K base ow (w.setCell ⟨(y.br i).g, k, none⟩ (.int .i64 x)) := by
 have hr := h.pc (.gn i) hi
 have ho : Only (fun b => b = (y.br i).g) w (w.setCell ⟨(y.br i).g, k, none⟩ (.int .i64 x)) := zAg (Only.refl _ w) k _
 have hD : ∀ b, b < w.heap.size → b = (y.br i).g → ow b = .gn i := fun b _ e => by rw [e]; exact hr.o
 refine ⟨_, h.turn (.gn i) (fun _ => false) (by simp) ho hD (fun u hu W own hp => ?_) ?_, Kept.turn _ _ (by simp) ho hD⟩
 ·cases u with
  | gn j =>
   have hji : j ≠ i := fun e => hu (by rw [e])
   show j < c.n → NumRow W base (y.br j).g (upd1 S.gn i _ j) own
   rw [zDl _ _ hji]
   exact hp
  | _ => exact hp
 ·intro _
  show NumRow _ base (y.br i).g (upd1 S.gn i _ i) _
  rw [zDg]
  exact ⟨IRow.set_ hr.row hk x, hr.low, by rw [zCp (Blk.lt hr.row)]; exact hr.o⟩
theorem PW.setAsk (h : PW w c y S K base ow) {i k : Nat} (hi : i < c.n) (hk : k < (S.ask i).length) (x : Int) : Turned w c y { S with ask := upd1 S.ask i ((S.ask i).set k x) } K base ow (w.setCell ⟨(y.br i).a, k, none⟩ (.int .i64 x)) := by
 have hr := h.pc (.ask i) hi
 have ho : Only (fun b => b = (y.br i).a) w (w.setCell ⟨(y.br i).a, k, none⟩ (.int .i64 x)) := zAg (Only.refl _ w) k _
 have hD : ∀ b, b < w.heap.size → b = (y.br i).a → ow b = .ask i := fun b _ e => by rw [e]; exact hr.o
 refine ⟨_, h.turn (.ask i) (fun _ => false) (by simp) ho hD (fun u hu W own hp => ?_) ?_, Kept.turn _ _ (by simp) ho hD⟩
 ·cases u with
  | ask j =>
   have hji : j ≠ i := fun e => hu (by rw [e])
   show j < c.n → NumRow W base (y.br j).a (upd1 S.ask i _ j) own
   rw [zDl _ _ hji]
   exact hp
  | _ => exact hp
 ·intro _
  show NumRow _ base (y.br i).a (upd1 S.ask i _ i) _
  rw [zDg]
  exact ⟨IRow.set_ hr.row hk x, hr.low, by rw [zCp (Blk.lt hr.row)]; exact hr.o⟩
end
end
end Go.Proofs.YtbolcebmbpepdaaGreatDoor
