/- Contracts and plain facts, set together by program out of smaller texts. Conditions: none beyond what each theorem states. -/
import Derived.Test.YtbolcebmbpepdaaGreatDoorProg
import Derived.BigQuiet
import Derived.Lib.SliceRun
import Derived.StillTail
import Derived.Test.YtbolcebmbpepdaaGreatDoorM01
import Derived.Test.YtbolcebmbpepdaaGreatDoorM02
namespace Go.Proofs.YtbolcebmbpepdaaGreatDoor
set_option linter.unusedVariables false
section
open Go.RowKit
def zAu : List Int → Int → Int
 | [], _ => 0
 | w :: l, c => min w c + zAu l c
def zDa (c : Int) : Int → List Int → List Int
 | _, [] => []
 | r, w :: l => if c < w ∧ 0 < r then (c + 1) :: zDa c (r - 1) l else min w c :: zDa c r l
def zCq (z : Int) : Bool := decide (0 ≤ z ∧ z ≤ 1048576)
def zLj (total : Int) (ws : List Int) (c : Int) : Prop := 0 ≤ c ∧ zAu ws c ≤ total ∧ (total < zAu ws (c + 1) ∨ ∀ w ∈ ws, w ≤ c)
def zHq (total : Int) (ws : List Int) : Nat → Nat
 | 0 => 0
 | n + 1 => if zAu ws ((n + 1 : Nat) : Int) ≤ total then n + 1 else zHq total ws n
def gives (total : Int) (ws : List Int) : List Int := zDa (zHq total ws 1048576) (total - zAu ws (zHq total ws 1048576)) ws
def zHn (total : Int) (ws : List Int) : List Int × Int :=
 if 16 < ws.length then ([], 1) else if (zCq total && ws.all zCq) then (gives total ws, 0) else ([], 2)
theorem zOq (ws : List Int) (c d : Int) (h : c ≤ d) : zAu ws c ≤ zAu ws d := by
 induction ws with
 | nil => exact Int.le_refl _
 | cons w l ih => simp only [zAu]; omega
theorem zPq (ws : List Int) (c : Int) (h : ∀ w ∈ ws, w ≤ c) (d : Int) : zAu ws d ≤ zAu ws c := by
 induction ws with
 | nil => exact Int.le_refl _
 | cons w l ih =>
  have := h w (by simp)
  have := ih (fun y hy => h y (by simp [hy]))
  simp only [zAu]; omega
theorem zSx (ws : List Int) (h : ∀ w ∈ ws, 0 ≤ w ∧ w ≤ 1048576) (c : Int) (hc : 0 ≤ c) : 0 ≤ zAu ws c ∧ zAu ws c ≤ 1048576 * ws.length := by
 induction ws with
 | nil => simp [zAu]
 | cons w l ih =>
  have h1 := h w (by simp)
  have h2 := ih (fun y hy => h y (by simp [hy]))
  simp only [zAu, List.length_cons]
  omega
theorem zOg (ws : List Int) (h : ∀ w ∈ ws, 0 ≤ w) : zAu ws 0 = 0 := by
 induction ws with
 | nil => rfl
 | cons w l ih =>
  have h1 := h w (by simp)
  have h2 := ih (fun y hy => h y (by simp [hy]))
  simp only [zAu, h2]; omega
theorem zQl (ws : List Int) (c r : Int) (h : ∀ w ∈ ws, w ≤ c) : zDa c r ws = ws := by
 induction ws generalizing r with
 | nil => rfl
 | cons w l ih =>
  have h1 := h w (by simp)
  rw [zDa, if_neg (by omega), ih r (fun y hy => h y (by simp [hy]))]
  congr 1
  omega
theorem zWg (total : Int) (ws : List Int) (c d : Int) (hc : zLj total ws c) (hd : zLj total ws d) : zDa c (total - zAu ws c) ws = zDa d (total - zAu ws d) ws := by
 obtain ⟨c0, c1, c2⟩ := hc
 obtain ⟨d0, d1, d2⟩ := hd
 rcases c2 with c2 | c2 <;> rcases d2 with d2 | d2
 ·have : c = d := by
   rcases Int.lt_trichotomy c d with h | h | h
   ·have := zOq ws (c + 1) d (by omega); omega
   ·exact h
   ·have := zOq ws (d + 1) c (by omega); omega
  rw [this]
 ·have := zPq ws d d2 (c + 1); omega
 ·have := zPq ws c c2 (d + 1); omega
 ·rw [zQl ws c _ c2, zQl ws d _ d2]
theorem zOs (total : Int) (ws : List Int) (ht : 0 ≤ total) (h : ∀ w ∈ ws, 0 ≤ w ∧ w ≤ 1048576) : zLj total ws (zHq total ws 1048576) := by
 have H : ∀ n, zAu ws (zHq total ws n) ≤ total ∧ (zHq total ws n = n ∨ total < zAu ws ((zHq total ws n : Int) + 1)) := by
  intro n
  induction n with
  | zero => exact ⟨by rw [zHq]; have := zOg ws (fun w hw => (h w hw).1); simpa [this] using ht, .inl rfl⟩
  | succ n ih =>
   rw [zHq]
   by_cases hc : zAu ws ((n + 1 : Nat) : Int) ≤ total
   ·rw [if_pos hc]; exact ⟨hc, .inl rfl⟩
   ·rw [if_neg hc]
    refine ⟨ih.1, .inr ?_⟩
    rcases ih.2 with e | e
    ·rw [e]; simpa using Int.not_le.1 hc
    ·exact e
 obtain ⟨h1, h2⟩ := H 1048576
 refine ⟨by omega, h1, ?_⟩
 rcases h2 with e | e
 ·right
  intro w hw
  rw [e]
  exact (h w hw).2
 ·exact .inl e
theorem zYf (total : Int) (ws : List Int) (ht : 0 ≤ total) (h : ∀ w ∈ ws, 0 ≤ w ∧ w ≤ 1048576) (c : Int) (hc : zLj total ws c) : zDa c (total - zAu ws c) ws = gives total ws :=
 zWg total ws _ _ hc (zOs total ws ht h)
theorem zLy (c r : Int) (ws : List Int) : (zDa c r ws).length = ws.length := by
 induction ws generalizing r with
 | nil => rfl
 | cons w l ih => rw [zDa]; split <;> simp [ih]
theorem zOv (ws : List Int) : ws.all zCq = true ↔ ∀ w ∈ ws, 0 ≤ w ∧ w ≤ 1048576 := by
 simp [List.all_eq_true, zCq]
end
section
def minL (ws : List Int) (c : Int) : List Int := ws.map fun w => min w c
def Round (total : Int) (ws os : List Int) (t : Int) : Prop :=
 os.length = ws.length ∧ 0 ≤ t ∧ t ≤ total ∧ (∀ (k : Nat) (w o : Int), ws[k]? = some w → os[k]? = some o → 0 ≤ o ∧ o ≤ w) ∧
 ((∃ c, 0 ≤ c ∧ os = minL ws c ∧ t = total - zAu ws c) ∨ (t = 0 ∧ os = gives total ws))
theorem zTo (ws : List Int) (hw : ∀ w ∈ ws, 0 ≤ w ∧ w ≤ 1048576) (c : Int) (hc : 0 ≤ c) : ∀ (r : Int) (k : Nat) (w o : Int), ws[k]? = some w → (zDa c r ws)[k]? = some o → 0 ≤ o ∧ o ≤ w := by
 induction ws with
 | nil => intro r k w o h; simp at h
 | cons x l ih =>
  intro r k w o h h2
  have hx := hw x (by simp)
  have i := ih (fun y hy => hw y (by simp [hy]))
  rw [zDa] at h2
  cases k with
  | zero =>
   simp at h; subst h
   split at h2
   ·simp at h2; omega
   ·simp at h2; omega
  | succ k =>
   simp at h
   split at h2
   ·exact i _ k w o h (by simpa using h2)
   ·exact i _ k w o h (by simpa using h2)
end
section
open Go.RowKit
def sumL : List Int → Int
 | [] => 0
 | x :: l => x + sumL l
theorem zUb : ∀ (l : List Int) (i : Nat) (x y : Int), l[i]? = some x → sumL (l.set i y) = sumL l - x + y
 | [], i, x, y, h => by simp at h
 | z :: l, 0, x, y, h => by simp at h; subst h; simp only [List.set_cons_zero, sumL]; omega
 | z :: l, i + 1, x, y, h => by simp at h; simp only [List.set_cons_succ, sumL, zUb l i x y h]; omega
theorem zOk : ∀ (l : List Int), (∀ x ∈ l, 0 ≤ x) → 0 ≤ sumL l
 | [], _ => Int.le_refl _
 | x :: l, h => by have := h x (by simp); have := zOk l (fun y hy => h y (by simp [hy])); simp only [sumL]; omega
theorem zLu : ∀ (l : List Int), (∀ x ∈ l, 0 ≤ x) → ∀ x ∈ l, x ≤ sumL l
 | [], _, x, hx => by cases hx
 | y :: l, h, x, hx => by
  have h0 := h y (by simp)
  have h1 := zOk l (fun y hy => h y (by simp [hy]))
  rcases List.mem_cons.1 hx with rfl | hx
  ·simp only [sumL]; omega
  ·have := zLu l (fun y hy => h y (by simp [hy])) x hx
   simp only [sumL]; omega
theorem yBk (ws : List Int) (c : Int) : ∀ r, 0 ≤ r → sumL (zDa c r ws) ≤ zAu ws c + r := by
 induction ws with
 | nil => intro r hr; simp [zDa, sumL, zAu]; omega
 | cons w l ih =>
  intro r hr
  rw [zDa]
  split
  ·have := ih (r - 1) (by omega)
   simp only [sumL, zAu]; omega
  ·have := ih r hr
   simp only [sumL, zAu]; omega
theorem zOf (total : Int) (ws : List Int) (ht : 0 ≤ total) (hw : ∀ w ∈ ws, 0 ≤ w ∧ w ≤ 1048576) : (gives total ws).length = ws.length ∧ (∀ x ∈ gives total ws, 0 ≤ x ∧ x ≤ 1048576) ∧ sumL (gives total ws) ≤ total := by
 have hl := zOs total ws ht hw
 refine ⟨zLy _ _ _, fun x hx => ?_, ?_⟩
 ·obtain ⟨k, hk⟩ := List.getElem?_of_mem hx
  have hk2 : k < ws.length := by have := (List.getElem?_eq_some_iff.1 hk).1; unfold gives at this; rw [zLy] at this; exact this
  have h1 := zTo ws hw _ hl.1 _ k _ x (List.getElem?_eq_getElem hk2) hk
  have h2 := hw _ (List.getElem_mem hk2)
  omega
 ·have h1 := yBk ws (zHq total ws 1048576) (total - zAu ws (zHq total ws 1048576)) (by have := hl.2.1; omega)
  unfold gives
  omega
theorem zZw (total most : Int) (nb : Nat) (h1 : 0 ≤ total ∧ total ≤ 1048576) (h2 : 0 ≤ most ∧ most ≤ 1048576) (h3 : nb ≤ 8) : zHn total (List.replicate nb most) = (gives total (List.replicate nb most), 0) := by
 unfold zHn
 rw [if_neg (by rw [List.length_replicate]; omega), if_pos]
 rw [Bool.and_eq_true]
 refine ⟨by unfold zCq; simpa using h1, (zOv _).2 fun w hw => ?_⟩
 have := List.eq_of_mem_replicate hw
 omega
structure BkS where
 round : Int
 reserve : Int
 all : Int
 wants : List Int
 granted : List Int
 quota : List Int
def BkS.due (s : BkS) (i : Nat) : Int := min (s.wants.getD i 0 - s.granted.getD i 0) (s.quota.getD i 0)
def rndAt (s : BkS) (i : Nat) : BkS := { s with granted := s.granted.set i (s.granted.getD i 0 + s.due i), quota := s.quota.set i (s.quota.getD i 0 - s.due i), reserve := s.reserve - s.due i }
def rnd (s : BkS) : Nat → BkS
 | 0 => s
 | k + 1 => rndAt (rnd s k) k
def zFc (most : Int) (s : BkS) : BkS := { s with quota := gives s.reserve (List.replicate s.wants.length most) }
def zBj (most ticks : Int) (s : BkS) : BkS × (List Int × Int) :=
 let s1 := if s.round % ticks = 0 then zFc most s else s
 let s2 := rnd { s1 with round := s.round + 1 } s.wants.length
 (s2, s2.granted, if s.round % ticks = 0 then s.reserve else -1)
def zIp (s : BkS) (n : Int) : BkS := { s with reserve := s.reserve + n, all := s.all + n }
def zEs (s : BkS) (who : Nat) (n : Int) : BkS := { s with wants := s.wants.set who (max (s.wants.getD who 0) n) }
structure BkS.ok (s : BkS) (nb : Nat) (K : Int) : Prop where
 lw : s.wants.length = nb
 lg : s.granted.length = nb
 lq : s.quota.length = nb
 rd : 0 ≤ s.round ∧ s.round ≤ K
 res : 0 ≤ s.reserve ∧ s.reserve ≤ s.all ∧ s.all ≤ 1048576
 w : ∀ x ∈ s.wants, 0 ≤ x ∧ x ≤ 1048576
 g : ∀ x ∈ s.granted, 0 ≤ x
 gw : ∀ (i : Nat) x y, s.granted[i]? = some x → s.wants[i]? = some y → x ≤ y
 q : ∀ x ∈ s.quota, 0 ≤ x
 qs : sumL s.quota ≤ s.reserve
theorem getD_of {l : List Int} {i : Nat} {x : Int} (h : l[i]? = some x) : l.getD i 0 = x := by simp [List.getD_eq_getElem?_getD, h]
theorem zBf {l : List Int} {i n : Nat} (hl : l.length = n) (hi : i < n) : l[i]? = some (l.getD i 0) := by
 rw [List.getD_eq_getElem?_getD, List.getElem?_eq_getElem (by omega)]; rfl
theorem BkS.ok.due_ {s : BkS} {nb : Nat} {K : Int} (h : s.ok nb K) {i : Nat} (hi : i < nb) : 0 ≤ s.due i ∧ s.due i ≤ s.quota.getD i 0 ∧ s.due i ≤ s.wants.getD i 0 - s.granted.getD i 0 ∧ s.due i ≤ s.reserve := by
 have h1 := h.gw i _ _ (zBf h.lg hi) (zBf h.lw hi)
 have h2 := h.q _ (List.mem_of_getElem? (zBf h.lq hi))
 have h3 := zLu _ h.q _ (List.mem_of_getElem? (zBf h.lq hi))
 have h4 := h.qs
 unfold BkS.due
 omega
theorem zRi {l : List Int} {i : Nat} {x y : Int} (h : y ∈ l.set i x) : y ∈ l ∨ y = x := by
 rcases List.mem_or_eq_of_mem_set h with h | h
 ·exact .inl h
 ·exact .inr h
theorem rndAt_ok {s : BkS} {nb : Nat} {K : Int} (h : s.ok nb K) {i : Nat} (hi : i < nb) : (rndAt s i).ok nb K := by
 obtain ⟨d0, d1, d2, d3⟩ := h.due_ hi
 have hr := h.res
 have hgi := h.g _ (List.mem_of_getElem? (zBf h.lg hi))
 refine ⟨h.lw, by simp [rndAt, h.lg], by simp [rndAt, h.lq], h.rd, ⟨by simp only [rndAt]; omega, by simp only [rndAt]; omega, hr.2.2⟩, h.w, fun x hx => ?_, fun j x y hx hy => ?_, fun x hx => ?_, ?_⟩
 ·rcases zRi hx with hx | rfl
  ·exact h.g x hx
  ·omega
 ·simp only [rndAt] at hx hy
  by_cases hij : i = j
  ·subst hij
   rw [List.getElem?_set_self (by rw [h.lg]; exact hi)] at hx
   injection hx with hx
   have := getD_of hy
   omega
  ·rw [List.getElem?_set_ne hij] at hx
   exact h.gw j x y hx hy
 ·rcases zRi hx with hx | rfl
  ·exact h.q x hx
  ·omega
 ·simp only [rndAt]
  rw [zUb _ _ _ _ (zBf h.lq hi)]
  have := h.qs
  omega
theorem zKv {s : BkS} {nb : Nat} {K : Int} (h : s.ok nb K) : ∀ k, k ≤ nb → (rnd s k).ok nb K
 | 0, _ => h
 | k + 1, hk => rndAt_ok (zKv h k (by omega)) (by omega)
theorem zUi {s : BkS} {nb : Nat} {K most : Int} (h : s.ok nb K) (hm : 0 ≤ most ∧ most ≤ 1048576) : (zFc most s).ok nb K := by
 obtain ⟨h1, h2, h3⟩ := zOf s.reserve (List.replicate s.wants.length most) h.res.1 (fun w hw => by have := List.eq_of_mem_replicate hw; omega)
 refine ⟨h.lw, h.lg, by simp only [zFc]; rw [h1, List.length_replicate, h.lw], h.rd, h.res, h.w, h.g, h.gw, fun x hx => (h2 x hx).1, h3⟩
theorem zPc {s : BkS} {nb : Nat} {K most ticks : Int} (h : s.ok nb K) (hm : 0 ≤ most ∧ most ≤ 1048576) : (zBj most ticks s).1.ok nb (K + 1) := by
 have key : ∀ t : BkS, t.ok nb K → t.round = s.round → t.wants = s.wants → (rnd { t with round := s.round + 1 } s.wants.length).ok nb (K + 1) := fun t ht hr hw => by
  have h0 : ({ t with round := s.round + 1 } : BkS).ok nb (K + 1) := ⟨ht.lw, ht.lg, ht.lq, (show 0 ≤ s.round + 1 ∧ s.round + 1 ≤ K + 1 by have := h.rd; omega), ht.res, ht.w, ht.g, ht.gw, ht.q, ht.qs⟩
  exact zKv h0 _ (by rw [h.lw]; exact Nat.le_refl _)
 unfold zBj
 dsimp only
 split
 ·exact key _ (zUi h hm) rfl rfl
 ·exact key _ h rfl rfl
theorem want_ok {s : BkS} {nb : Nat} {K n : Int} {who : Nat} (h : s.ok nb K) (hw : who < nb) (hn : 0 ≤ n ∧ n ≤ 1048576) : (zEs s who n).ok nb (K + 1) := by
 have hx := h.w _ (List.mem_of_getElem? (zBf h.lw hw))
 refine ⟨by simp [zEs, h.lw], h.lg, h.lq, by have := h.rd; simp only [zEs]; omega, h.res, fun x hx => ?_, h.g, fun j x y hx hy => ?_, h.q, h.qs⟩
 ·rcases zRi hx with hx | rfl
  ·exact h.w x hx
  ·omega
 ·simp only [zEs] at hx hy
  by_cases hij : who = j
  ·subst hij
   rw [List.getElem?_set_self (by rw [h.lw]; exact hw)] at hy
   injection hy with hy
   have := h.gw who x _ hx (zBf h.lw hw)
   omega
  ·rw [List.getElem?_set_ne hij] at hy
   exact h.gw j x y hx hy
theorem zQs {s : BkS} {nb : Nat} {K L : Int} (h : s.ok nb K) (hL : K ≤ L) : s.ok nb L := { h with rd := ⟨h.rd.1, Int.le_trans h.rd.2 hL⟩ }
def BkS.new (nb : Nat) : BkS := ⟨0, 0, 0, List.replicate nb 0, List.replicate nb 0, List.replicate nb 0⟩
theorem zWj (n : Nat) : sumL (List.replicate n 0) = 0 := by
 induction n with
 | zero => rfl
 | succ n ih => rw [List.replicate_succ, sumL, ih]; rfl
theorem zYz (nb : Nat) : (BkS.new nb).ok nb 0 := by
 have hz : ∀ x ∈ List.replicate nb (0 : Int), x = 0 := fun x hx => List.eq_of_mem_replicate hx
 refine ⟨by simp [BkS.new], by simp [BkS.new], by simp [BkS.new], by simp [BkS.new], by simp [BkS.new], fun x hx => ?_, fun x hx => ?_, fun i x y hx hy => ?_, fun x hx => ?_, ?_⟩
 ·have := hz x hx; omega
 ·have := hz x hx; omega
 ·have := hz x (List.mem_of_getElem? hx); have := hz y (List.mem_of_getElem? hy); omega
 ·have := hz x hx; omega
 ·simp only [BkS.new]; rw [zWj]; omega
end
section
open Go.RowKit
structure Ext (w : World) where
 W : World
 h : Below w.heap.size w W
theorem Ext.cell {w : World} (n : Ext w) {p : Addr} {v : Value} (h : w.cell? p = some v) : n.W.cell? p = some v := by
 rw [n.h.cell (Blk_lt_of_cell h)]; exact h
where
 Blk_lt_of_cell {w : World} {p : Addr} {v : Value} (h : w.cell? p = some v) : p.block < w.heap.size := by
  refine Nat.not_le.1 fun hc => ?_
  have : w.heap[p.block]? = none := Array.getElem?_eq_none hc
  unfold World.cell? at h
  simp [this] at h
instance (w : World) : Nonempty (Ext w) := ⟨⟨w, Below.refl _ _⟩⟩
def Ext.on {w : World} (n : Ext w) (m : Ext n.W) : Ext w := ⟨m.W, n.h.trans (m.h.mono n.h.size)⟩
theorem zDi {P : Program} {f : FuncId} {args : Array Value} {w : World} {n : Ext w} {v : Value}
    (h : Calls P f args n.W fun e w' => e = .returned v ∧ Below n.W.heap.size n.W w') : Calls P f args n.W fun e w'' => e = .returned v ∧ ∃ m : Ext w, w'' = m.W :=
 h.mono fun _ w' ⟨he, hb⟩ => ⟨he, n.on ⟨w', hb⟩, rfl⟩
theorem zCh {w : World} {g : Nat} {t : TypeId} {cs : List Value} {B : Nat} (h : Blk w g t cs.toArray) (hB : g < B) : Reads w B 1 (some ⟨g, 0, none⟩) cs.length cs := by
 refine ⟨by simp, fun _ => ⟨⟨g, 0, none⟩, rfl, hB, fun j u hj => ?_⟩⟩
 have := h.cell j
 have e : (⟨g, 0, none⟩ : Addr).add j = ⟨g, j, none⟩ := by unfold Addr.add; split <;> simp_all
 rw [e]
 simpa [hj] using this
theorem zCr {P : Program} {id : Nat} {Q : Exit → Act → World → Prop} {a : Act} {w : World} {l : List Oper} (hm : P.follows .mixedOrders = true) (hB : Region.lexB .any l.toArray = true)
    (h : wpQuiet P l.toArray (fun w' => ∃ n : Ext w, w' = n.W) (fun a' => ∀ w', (∃ n : Ext w, w' = n.W) → Q .normal a' w') l a) : (Code.region id l.toArray true).wp P Q a w :=
 wp_region_quiet (C := fun w' => ∃ n : Ext w, w' = n.W) hm hB ⟨⟨w.drew, (Below.refl _ w).drew⟩, rfl⟩ (by simpa using h)
end
section
open Go.RowKit
theorem zUm : (Tryz.prog.info? 5).map (fun i => (i.zero, i.size, i.bytes)) = some (some (.int .u8 0), 1, 1) := by kernel_rfl
theorem zXt : ∃ i, Tryz.prog.info? 5 = some i ∧ i.zero = some (.int .u8 0) ∧ i.size = 1 ∧ i.bytes = 1 := by
 have h := zUm
 cases hi : Tryz.prog.info? 5 with
 | none => rw [hi] at h; simp at h
 | some i => rw [hi] at h; simp at h; exact ⟨i, rfl, h.1, h.2.1, h.2.2⟩
theorem zMc (A : Option Addr) (n c : Nat) (xs : List Value) (B : Nat) (w : World) (hone : ∀ u ∈ xs, u.oneCell' = true) (hm : n * 1 ≤ 140737488355328) (hr : Reads w B 1 A n xs) (hB : B ≤ w.heap.size) :
    Calls Tryz.prog 55 #[.slice A n c] w fun e w' => ∃ v, e = .returned v ∧ w'.ownsRow w.heap.size 5 1 v n xs ∧ Below w.heap.size w w' := by
 obtain ⟨i0, hi, hz0, hz1, hz2⟩ := zXt
 have q22 : ∀ (w : World) (a : Option Addr) (n c n' c' : Nat), (binOp .eql 55 (.slice a n c) (.slice none n' c')).run Tryz.prog w = .ok (.bool a.isNone) w := fun w a n c n' c' => Lib.run_eql_slice_nil w _ _ a n c n' c' Tryz.underlying55
 have HR := hide (hr.more hB)
 clear hr
 cases A with
 | none =>
  obtain rfl : n = 0 := by
   rcases Nat.eq_zero_or_pos n with h | h
   ·exact h
   ·obtain ⟨a, ha, _⟩ := (zAa HR).2 h; cases ha
  obtain rfl : xs = [] := List.eq_nil_of_length_eq_zero (by have := (zAa HR).1; omega)
  go_enter Tryz.func55, Tryz.ntmps55
  go_wp2_with fail
  go_ret
  exact ⟨_, rfl, World.ownsRow_nil _ _ _ _, Below.refl _ _⟩
 | some a =>
  have hlit := World.ownsRow_lit (base := w.heap.size) (size := 1) (e := 5) w #[] 0 (Nat.le_refl _) (by unfold maxLen; omega) rfl
  have HLIT := hide hlit
  have HR1 := hide ((zAa HR).alloc (Nat.le_refl _) (.cells #[] 5))
  have h1 : 0 + n ≤ maxLen := by unfold maxLen; omega
  have h2 : (0 + n) * 1 ≤ 140737488355328 := by omega
  have HONE := hide hone
  clear hlit hB hm hone
  go_enter Tryz.func55, Tryz.ntmps55
  go_wp2_with (first
   | (at_builtin; (refine zAr _ rfl (.tmp 5) (.tmp 6) _ rfl w.heap.size 5 i0 _ 1 1 Tryz.underlying55 hi hz0 hz1 hz2 rfl (by omega) _ 0 _ rfl (zAa HLIT) w.heap.size (some a) n c xs rfl (zAa HR1) (zAa HONE) h1 h2 (by simp) ?_); intro v w1 hown hg hv))
  go_ret
  exact ⟨v, rfl, by simpa using hown, ((Below.refl _ w).alloc (Nat.le_refl _) _).grown hg (by simp) fun k hk => ((zAa HLIT).lt k hk).1⟩
end
section
open Go.RowKit
section
variable {P : Program} {ops : Array Oper} {md : Region.Mode} {C : World → Prop}
def zNk (P : Program) (md : Region.Mode) (ops : Array Oper) (C : World → Prop) (n : Nat) (L : Array Bool → Act → Prop) : Nat → Array Bool → Act → Prop
 | 0, listed, a => L listed a
 | f + 1, listed, a =>
  Region.ready md ops listed ≠ [] ∧ ∀ i ∈ Region.ready md ops listed, i < n ∧ qOp P ops C i (zNk P md ops C n L f (listed.setIfInBounds i true)) a
theorem zKw {n g : Nat} {L : Array Bool → Act → Prop} {Q' : Exit → Act → World → Prop} (hL : ∀ listed a w, C w → L listed a → wpAny P md ops Q' g listed a w) :
    ∀ (f : Nat) (listed : Array Bool) (a : Act) (w : World), C w → zNk P md ops C n L f listed a → wpAny P md ops Q' (f + g) listed a w
 | 0, listed, a, w, hw, h => by rw [Nat.zero_add]; exact hL _ _ _ hw h
 | f + 1, listed, a, w, hw, h => by
  rw [show f + 1 + g = (f + g) + 1 by omega]
  exact ⟨fun h0 => absurd h0 h.1, fun i hi => wpOp_of_qOp hw (fun a' w' hw' h' => zKw hL f _ a' w' hw' h') (h.2 i hi).2⟩
theorem zVi {n i : Nat} {oi : Oper} {v : Value} {L : Array Bool → Act → Prop} (hi : ops[i]? = some oi) (hsel : ∀ (j : Nat) (o : Oper) cs b, ops[j]? = some o → o.op ≠ .select cs b)
    (hs : Region.sinkB md ops n = true) (hc : Region.chainB md ops n = true) (hn : n < ops.size) (hin : i < n)
    (hdone : ∀ listed a, L listed a → ∀ j ∈ Region.ready md ops listed, n ≤ j) :
    ∀ (f : Nat) (listed : Array Bool) (a : Act), HeadInv md ops n listed →
     (∀ j oj, ops[j]? = some oj → j ≠ i → listed.getD j true = false → (∀ e ∈ oj.after, Region.binds md e = true → e.on ≠ i) → oi.apart ops oj = true) →
     i ∈ Region.ready md ops listed → YieldsIn P ops C oi v a →
     zNk P md ops C n L f (listed.setIfInBounds i true) (a.put oi.dst v) → zNk P md ops C n L (f + 1) listed a := by
 intro f
 induction f with
 | zero =>
  intro listed a inv _ hr hy H
  have hun := (mem_ready.1 hr).1
  refine ⟨fun h => (by rw [h] at hr; cases hr), fun j hj => ?_⟩
  have hjn : j < n := by
   rcases Nat.lt_or_ge j n with h | h
   ·exact h
   ·exact absurd hj (tail_waits hs hc hn inv _ i rfl hin hun j h)
  refine ⟨hjn, ?_⟩
  by_cases hji : j = i
  ·subst hji; exact hy.qOp hi H
  ·have := hdone _ _ H j (ready_mono hj hji)
   omega
 | succ f ih =>
  intro listed a inv hfree hr hy H
  have hun := (mem_ready.1 hr).1
  refine ⟨fun h => (by rw [h] at hr; cases hr), fun j hj => ?_⟩
  have hjn : j < n := by
   rcases Nat.lt_or_ge j n with h | h
   ·exact h
   ·exact absurd hj (tail_waits hs hc hn inv _ i rfl hin hun j h)
  refine ⟨hjn, ?_⟩
  by_cases hji : j = i
  ·subst hji; exact hy.qOp hi H
  ·have h1 := (H.2 j (ready_mono hj hji)).2
   obtain ⟨hjun, oj, hoj, hall⟩ := mem_ready.1 hj
   have hnot : ∀ e ∈ oj.after, Region.binds md e = true → e.on ≠ i := fun e he hb heq => by
    have h1 := hall e he hb
    rw [heq, getD_both hun] at h1
    cases h1
   have h2 := qOp_put hoj (hfree j oj hoj hji hjun hnot) (fun cs b => hsel i oi cs b hi) (fun cs b => hsel j oj cs b hoj) hy h1
   have hfree' : ∀ k ok, ops[k]? = some ok → k ≠ i → (listed.setIfInBounds j true).getD k true = false →
       (∀ e ∈ ok.after, Region.binds md e = true → e.on ≠ i) → oi.apart ops ok = true := fun k ok hk hki hun hno => by
    refine hfree k ok hk hki ?_ hno
    by_cases hjk : j = k
    ·subst hjk; exact hjun
    ·rw [getD_set_ne true hjk] at hun; exact hun
   refine qOp_mono (fun a' h3 => ih (listed.setIfInBounds j true) a' (inv.set hj hjn) hfree' (ready_mono hr (Ne.symm hji)) h3.1 ?_) h2
   rw [Array.setIfInBounds_comm _ _ hji]
   exact h3.2
theorem zQk {n g : Nat} {Lq : Act → Prop} (hsel : Region.noSelect ops = true) (hs : Region.sinkB md ops n = true) (hc : Region.chainB md ops n = true) (hn : n < ops.size) :
    ∀ (l : List Oper) (k : Nat) (listed : Array Bool) (a : Act), (∀ j, j < l.length → l[j]? = ops[k + j]?) → k + l.length = n → HeadInv md ops n listed →
    Region.lexHead md ops g l.length k listed = true → wpQuiet P ops C Lq l a →
    zNk P md ops C n (fun listed' a' => Region.seqB md ops g n listed' = true ∧ Lq a') l.length listed a
 | [], k, listed, a, _, hk, _, hB, h => by
  have : k = n := by simpa using hk
  subst this
  exact ⟨by simpa [Region.lexHead] using hB, h⟩
 | o :: l, k, listed, a, hl, hk, inv, hB, h => by
  have h0 : ops[k]? = some o := by simpa using (hl 0 (by simp)).symm
  simp only [List.length_cons, Region.lexHead, Bool.and_eq_true] at hB
  obtain ⟨⟨hr, hf⟩, hB'⟩ := hB
  have hkn : k < n := by simp only [List.length_cons] at hk; omega
  have hr' : k ∈ Region.ready md ops listed := by simpa using hr
  have hst : qOp P ops C k (wpQuiet P ops C Lq l) a := by unfold qOp; simp only [h0]; exact h
  obtain ⟨v, hy, hK⟩ := yieldsIn_of_qOp h0 hst
  exact zVi h0 (Region.noSelect_spec hsel) hs hc hn hkn (fun listed' a' hL => seqB_ready hL.1) l.length listed a inv (Region.free_spec h0 hf) hr' hy
   (zQk hsel hs hc hn l (k + 1) _ _ (fun j hj => by have := hl (j + 1) (by simp; omega); simpa [Nat.add_assoc, Nat.add_comm 1 j] using this) (by simp only [List.length_cons] at hk; omega) (inv.set hr' hkn) hB' hK)
theorem zHg {id : Nat} {Q : Exit → Act → World → Prop} {a : Act} {w : World} {l : List Oper} (n : Nat) (hm : P.follows .mixedOrders = true) (hB : Region.lexTailB .any l.toArray n = true) (hC : C { w with drawn := w.drawn + 1 })
    (h : wpQuiet P l.toArray C (fun a' => ∀ w', C w' → wpList P l.toArray Q (l.drop n) a' w') (l.take n) a) : (Code.region id l.toArray true).wp P Q a w := by
 simp only [Region.lexTailB, Bool.and_eq_true, decide_eq_true_eq] at hB
 obtain ⟨⟨⟨⟨hsel, hn⟩, hs⟩, hc⟩, hlex⟩ := hB
 have hn' : n < l.length := by simpa using hn
 have htl : (l.take n).length = n := by simp; omega
 have hdl : (l.drop n).length = l.toArray.size - n := by simp
 have inv0 : HeadInv .any l.toArray n (Array.replicate l.toArray.size false) :=
  ⟨by simp, fun j oj _ hl => (by rw [getD_replicate_false] at hl; cases hl), fun t _ ht => getD_in (by simpa using ht) (getD_replicate_false _ _)⟩
 have H := zQk (md := .any) (C := C) (g := l.toArray.size - n) hsel hs hc hn (l.take n) 0 _ a (fun j hj => by
  have hj' : j < n := by rw [htl] at hj; exact hj
  simp [hj']) (by simpa using htl) inv0 (by rw [htl]; exact hlex) h
 refine wp_region_any hm ?_
 have := zKw (Q' := Q) (g := l.toArray.size - n) (fun listed a' w' hw' hL => by
  have := wpAny_of_seq (md := .any) (Q' := Q) (l.drop n) n listed a' w' (fun j => by simp [List.getElem?_drop]) (by rw [hdl]; exact hL.1) (hL.2 w' hw')
  rwa [hdl] at this) _ _ _ _ hC H
 rw [htl, show n + (l.toArray.size - n) = l.toArray.size by omega] at this
 exact this
theorem zCy {id : Nat} {Q : Exit → Act → World → Prop} {a : Act} {w : World} {l : List Oper} (n : Nat) (hm : P.follows .mixedOrders = true) (hB : Region.lexTailB .any l.toArray n = true)
    (h : wpQuiet P l.toArray (fun w' => ∃ n : Ext w, w' = n.W) (fun a' => ∀ w', (∃ n : Ext w, w' = n.W) → wpList P l.toArray Q (l.drop n) a' w') (l.take n) a) : (Code.region id l.toArray true).wp P Q a w :=
 zHg n hm hB ⟨⟨w.drew, (Below.refl _ w).drew⟩, rfl⟩ h
theorem zCo {id : Nat} {Q : Exit → Act → World → Prop} {a : Act} {w : World} {l : List Oper} (n : Nat) (hm : P.follows .mixedOrders = true) (hB : Region.lexTailB .any l.toArray n = true)
    (h : wpQuiet P l.toArray (fun w' => ∃ n, w' = w.drewN n) (fun a' => ∀ w', (∃ n, w' = w.drewN n) → wpList P l.toArray Q (l.drop n) a' w') (l.take n) a) : (Code.region id l.toArray true).wp P Q a w :=
 zHg n hm hB ⟨1, rfl⟩ h
end
end
section
open Go.RowKit
section
variable {P : Program} {ops : Array Oper} {md : Region.Mode} {C : World → Prop}
def zGd (md : Region.Mode) (ops : Array Oper) (t : Nat) : List Nat → Bool
 | [] => true
 | i :: hd => (hd.any (fun j => Region.waitsFor md ops j i) || Region.waitsFor md ops t i) && zGd md ops t hd
def zHc (md : Region.Mode) (ops : Array Oper) : Nat → List Nat → Bool
 | _, [] => true
 | t, u :: tl => Region.waitsFor md ops u t && zHc md ops u tl
structure HeadBy (md : Region.Mode) (ops : Array Oper) (tl : List Nat) (listed : Array Bool) : Prop where
 size : listed.size = ops.size
 closed : ∀ j oj, ops[j]? = some oj → listed.getD j false = true → ∀ e ∈ oj.after, Region.binds md e = true → listed.getD e.on false = true
 tail : ∀ t ∈ tl, listed.getD t true = false
theorem HeadBy.set {tl : List Nat} {i : Nat} {listed : Array Bool} (inv : HeadBy md ops tl listed) (hi : i ∈ Region.ready md ops listed) (hin : i ∉ tl) : HeadBy md ops tl (listed.setIfInBounds i true) := by
 obtain ⟨_, oi, hoi, hall⟩ := mem_ready.1 hi
 refine ⟨by simp [inv.size], fun j oj hj hl e he hb => ?_, fun t ht => by
  have hne : i ≠ t := fun e => hin (by rw [e]; exact ht)
  rw [getD_set_ne true hne]; exact inv.tail t ht⟩
 by_cases hij : i = j
 ·subst hij
  have : oj = oi := Option.some.inj (hj.symm.trans hoi)
  subst this
  exact getD_set_true (hall e he hb)
 ·rw [getD_set_ne false hij] at hl
  exact getD_set_true (inv.closed j oj hj hl e he hb)
theorem zFx {t : Nat} {tl : List Nat} {listed : Array Bool} (inv : HeadBy md ops (t :: tl) listed) : ∀ (hd : List Nat), zGd md ops t hd = true → ∀ i ∈ hd, listed.getD i true = false → t ∉ Region.ready md ops listed := by
 intro hd
 induction hd with
 | nil => intro _ i hi; cases hi
 | cons k hd ih =>
  intro hs i hi hun hr
  simp only [zGd, Bool.and_eq_true, Bool.or_eq_true] at hs
  rcases List.mem_cons.1 hi with rfl | hi
  ·rcases hs.1 with h1 | h1
   ·obtain ⟨j, hj, hw⟩ := List.any_eq_true.1 h1
    obtain ⟨oj, hoj, e, he, hb, hon⟩ := Region.waitsFor_spec hw
    cases hl : listed.getD j false with
    | true =>
     have h2 := inv.closed j oj hoj hl e he hb
     rw [hon, getD_both hun] at h2
     cases h2
    | false =>
     have hjs : j < listed.size := by rw [inv.size]; exact (Array.getElem?_eq_some_iff.1 hoj).1
     exact ih hs.2 j hj (getD_in hjs hl) hr
   ·obtain ⟨_, ot, hot, hall⟩ := mem_ready.1 hr
    obtain ⟨o', ho', e, he, hb, hon⟩ := Region.waitsFor_spec h1
    have : o' = ot := Option.some.inj (ho'.symm.trans hot)
    subst this
    have h2 := hall e he hb
    rw [hon, getD_both hun] at h2
    cases h2
  ·exact ih hs.2 i hi hun hr
theorem zGo {listed : Array Bool} : ∀ (tl : List Nat) (t : Nat), zHc md ops t tl = true → (∀ u ∈ t :: tl, listed.getD u true = false) → ∀ u ∈ tl, u ∉ Region.ready md ops listed := by
 intro tl
 induction tl with
 | nil => intro t _ _ u hu; cases hu
 | cons v tl ih =>
  intro t hc hun u hu hr
  simp only [zHc, Bool.and_eq_true] at hc
  rcases List.mem_cons.1 hu with rfl | hu
  ·obtain ⟨_, ot, hot, hall⟩ := mem_ready.1 hr
   obtain ⟨o', ho', e, he, hb, hon⟩ := Region.waitsFor_spec hc.1
   have : o' = ot := Option.some.inj (ho'.symm.trans hot)
   subst this
   have h2 := hall e he hb
   rw [hon, getD_both (hun t (by simp))] at h2
   cases h2
  ·exact ih v hc.2 (fun x hx => hun x (by simp [List.mem_cons.1 hx])) u hu hr
def zMx (P : Program) (md : Region.Mode) (ops : Array Oper) (C : World → Prop) (tl : List Nat) (L : Array Bool → Act → Prop) : Nat → Array Bool → Act → Prop
 | 0, listed, a => L listed a
 | f + 1, listed, a =>
  Region.ready md ops listed ≠ [] ∧ ∀ i ∈ Region.ready md ops listed, i ∉ tl ∧ qOp P ops C i (zMx P md ops C tl L f (listed.setIfInBounds i true)) a
theorem zVb {t : Nat} {hd tl : List Nat} {i : Nat} {oi : Oper} {v : Value} {L : Array Bool → Act → Prop} (hi : ops[i]? = some oi) (hsel : ∀ (j : Nat) (o : Oper) cs b, ops[j]? = some o → o.op ≠ .select cs b)
    (hs : zGd md ops t hd = true) (hc : zHc md ops t tl = true) (hih : i ∈ hd) (hit : i ∉ t :: tl)
    (hdone : ∀ listed a, L listed a → ∀ j ∈ Region.ready md ops listed, j ∈ t :: tl) :
    ∀ (f : Nat) (listed : Array Bool) (a : Act), HeadBy md ops (t :: tl) listed →
     (∀ j oj, ops[j]? = some oj → j ≠ i → listed.getD j true = false → (∀ e ∈ oj.after, Region.binds md e = true → e.on ≠ i) → oi.apart ops oj = true) →
     i ∈ Region.ready md ops listed → YieldsIn P ops C oi v a →
     zMx P md ops C (t :: tl) L f (listed.setIfInBounds i true) (a.put oi.dst v) → zMx P md ops C (t :: tl) L (f + 1) listed a := by
 intro f
 induction f with
 | zero =>
  intro listed a inv _ hr hy H
  have hun := (mem_ready.1 hr).1
  refine ⟨fun h => (by rw [h] at hr; cases hr), fun j hj => ?_⟩
  have hjn : j ∉ t :: tl := fun hjt => by
   rcases List.mem_cons.1 hjt with rfl | h
   ·exact zFx inv hd hs i hih hun hj
   ·exact zGo tl t hc inv.tail j h hj
  refine ⟨hjn, ?_⟩
  by_cases hji : j = i
  ·subst hji; exact hy.qOp hi H
  ·exact absurd (hdone _ _ H j (ready_mono hj hji)) hjn
 | succ f ih =>
  intro listed a inv hfree hr hy H
  have hun := (mem_ready.1 hr).1
  refine ⟨fun h => (by rw [h] at hr; cases hr), fun j hj => ?_⟩
  have hjn : j ∉ t :: tl := fun hjt => by
   rcases List.mem_cons.1 hjt with rfl | h
   ·exact zFx inv hd hs i hih hun hj
   ·exact zGo tl t hc inv.tail j h hj
  refine ⟨hjn, ?_⟩
  by_cases hji : j = i
  ·subst hji; exact hy.qOp hi H
  ·have h1 := (H.2 j (ready_mono hj hji)).2
   obtain ⟨hjun, oj, hoj, hall⟩ := mem_ready.1 hj
   have hnot : ∀ e ∈ oj.after, Region.binds md e = true → e.on ≠ i := fun e he hb heq => by
    have h1 := hall e he hb
    rw [heq, getD_both hun] at h1
    cases h1
   have h2 := qOp_put hoj (hfree j oj hoj hji hjun hnot) (fun cs b => hsel i oi cs b hi) (fun cs b => hsel j oj cs b hoj) hy h1
   have hfree' : ∀ k ok, ops[k]? = some ok → k ≠ i → (listed.setIfInBounds j true).getD k true = false →
       (∀ e ∈ ok.after, Region.binds md e = true → e.on ≠ i) → oi.apart ops ok = true := fun k ok hk hki hun hno => by
    refine hfree k ok hk hki ?_ hno
    by_cases hjk : j = k
    ·subst hjk; exact hjun
    ·rw [getD_set_ne true hjk] at hun; exact hun
   refine qOp_mono (fun a' h3 => ih (listed.setIfInBounds j true) a' (inv.set hj hjn) hfree' (ready_mono hr (Ne.symm hji)) h3.1 ?_) h2
   rw [Array.setIfInBounds_comm _ _ hji]
   exact h3.2
def zHm (md : Region.Mode) (ops : Array Oper) : List Nat → Array Bool → Bool
 | [], listed => (Region.ready md ops listed).isEmpty
 | k :: tl, listed => decide (Region.ready md ops listed = [k]) && (ops[k]?).isSome && zHm md ops tl (listed.setIfInBounds k true)
def zAb (ops : List Oper) (is : List Nat) : List Oper := is.map fun i => ops.getD i ⟨none, .move (.const undef), 0, "", #[], none⟩
def zPp (md : Region.Mode) (ops : Array Oper) (tl : List Nat) : List Nat → Array Bool → Bool
 | [], listed => zHm md ops tl listed
 | k :: hd, listed => (Region.ready md ops listed).contains k && Region.free md ops listed k && (ops[k]?).isSome && zPp md ops tl hd (listed.setIfInBounds k true)
def zJj (o : Oper) : Bool :=
 match o.op with
 | .move _ | .assign _ | .nilCheck _ | .fieldAddr .. => true
 | _ => false
theorem zMl {o : Oper} (h : zJj o = true) {ρ : Operand → Value} {w w' : World} {n : Next} (hr : (execOp ρ o).run P w = .ok n w') : ∃ u, n = .value u := by
 unfold zJj at h
 unfold execOp at hr
 split at h
 ·rename_i x ho
  simp only [ho] at hr
  simp at hr
  exact ⟨_, hr.1.symm⟩
 ·rename_i x ho
  simp only [ho] at hr
  simp at hr
  exact ⟨_, hr.1.symm⟩
 ·rename_i x ho
  simp only [ho] at hr
  have hnil : ∀ (w w' : World) (n : Next), ¬ (runtimePanic (α := Next) RuntimeError.nilDeref).run P w = .ok n w' := fun w w' n h => by simp [runtimePanic, goPanic] at h
  split at hr
  ·exact absurd hr (hnil _ _ _)
  ·exact absurd hr (hnil _ _ _)
  ·exact absurd hr (hnil _ _ _)
  ·split at hr
   ·exact absurd hr (hnil _ _ _)
   ·simp only [Sem.run_bind] at hr
    rename_i t wv _
    cases h1 : (program).run P w with
    | halt c w2 => rw [h1] at hr; simp at hr
    | ok u w2 =>
     rw [h1] at hr
     simp only [Result.andThen_ok] at hr
     cases h2 : (nilAhead (u.types.size + Made.depth) t wv _).run P w2 with
     | halt c w3 => rw [h2] at hr; simp at hr
     | ok u3 w3 =>
      rw [h2] at hr
      simp only [Result.andThen_ok] at hr
      split at hr
      ·simp only [Sem.run_bind] at hr
       generalize Sem.run P (unsupported _) w3 = r at hr
       cases r with
       | halt c w4 => simp at hr
       | ok u4 w4 => simp at hr; exact ⟨_, hr.1.symm⟩
      ·simp at hr
       exact ⟨_, hr.1.symm⟩
   ·simp at hr
    exact ⟨_, hr.1.symm⟩
  ·simp at hr
   exact ⟨_, hr.1.symm⟩
 ·rename_i x y z ho
  simp only [ho, Sem.run_bind] at hr
  cases hq : (Instr.fieldAt x (ρ y) z).run P w with
  | ok u w2 => rw [hq] at hr; simp at hr; exact ⟨_, hr.1.symm⟩
  | halt c w2 => rw [hq] at hr; simp at hr
 ·cases h
def zBy (md : Region.Mode) (ops : Array Oper) (out : List Nat) : List Nat → Array Bool → Bool
 | [], _ => true
 | k :: z, listed => (Region.ready md ops listed).contains k && Region.free md ops listed k && (match ops[k]? with | some o => zJj o | none => false) && !out.contains k && zBy md ops out z (listed.setIfInBounds k true)
def zBx (listed : Array Bool) : List Nat → Array Bool
 | [] => listed
 | k :: z => zBx (listed.setIfInBounds k true) z
theorem zYk {tl : List Nat} {listed : Array Bool} (h : zHm md ops tl listed = true) : ∀ j ∈ Region.ready md ops listed, j ∈ tl := by
 cases tl with
 | nil => intro j hj; simp only [zHm, List.isEmpty_iff] at h; rw [h] at hj; cases hj
 | cons k tl =>
  intro j hj
  simp only [zHm, Bool.and_eq_true, decide_eq_true_eq] at h
  rw [h.1.1] at hj
  have : j = k := by simpa using hj
  rw [this]; simp
theorem zQa {l : List Oper} {t : Nat} {tl : List Nat} {Lq : Act → Prop} (hsel : Region.noSelect l.toArray = true) (hc : zHc md l.toArray t tl = true) :
    ∀ (hd : List Nat) (listed : Array Bool) (a : Act), zGd md l.toArray t hd = true → (∀ i ∈ hd, i ∉ t :: tl) → HeadBy md l.toArray (t :: tl) listed →
    zPp md l.toArray (t :: tl) hd listed = true → wpQuiet P l.toArray C Lq (zAb l hd) a →
    zMx P md l.toArray C (t :: tl) (fun listed' a' => zHm md l.toArray (t :: tl) listed' = true ∧ Lq a') hd.length listed a
 | [], listed, a, _, _, _, hB, h => ⟨by simpa [zPp] using hB, h⟩
 | k :: hd, listed, a, hs, hdis, inv, hB, h => by
  simp only [zPp, Bool.and_eq_true] at hB
  obtain ⟨⟨⟨hr, hf⟩, hsome⟩, hB'⟩ := hB
  obtain ⟨o, h0⟩ := Option.isSome_iff_exists.1 hsome
  have hp : zAb l (k :: hd) = o :: zAb l hd := by
   have : l[k]? = some o := by simpa using h0
   simp [zAb, List.getD_eq_getElem?_getD, this]
  rw [hp] at h
  have hr' : k ∈ Region.ready md l.toArray listed := by simpa using hr
  have hst : qOp P l.toArray C k (wpQuiet P l.toArray C Lq (zAb l hd)) a := by unfold qOp; simp only [h0]; exact h
  obtain ⟨v, hy, hK⟩ := yieldsIn_of_qOp h0 hst
  have hs' : zGd md l.toArray t hd = true := by simp only [zGd, Bool.and_eq_true] at hs; exact hs.2
  exact zVb h0 (Region.noSelect_spec hsel) hs hc (by simp) (hdis k (by simp)) (fun listed' a' hL => zYk hL.1) hd.length listed a inv (Region.free_spec h0 hf) hr' hy
   (zQa hsel hc hd _ _ hs' (fun i hi => hdis i (by simp [hi])) (inv.set hr' (hdis k (by simp))) hB' hK)
theorem HeadBy.setAll {tl : List Nat} : ∀ (z : List Nat) (listed : Array Bool), HeadBy md ops tl listed → zBy md ops tl z listed = true → HeadBy md ops tl (zBx listed z)
 | [], _, inv, _ => inv
 | k :: z, listed, inv, h => by
  simp only [zBy, Bool.and_eq_true] at h
  obtain ⟨⟨⟨⟨hr, _⟩, _⟩, hk⟩, h'⟩ := h
  exact HeadBy.setAll z _ (inv.set (by simpa using hr) (by simpa using hk)) h'
theorem zQd {o : Oper} {v : Value} {a : Act} (hp : zJj o = true) (hy : YieldsIn P ops (fun _ => True) o v a) : Yields P ops o v a := by
 rcases hy with ⟨hw, hv⟩ | h
 ·refine .inl ⟨hw, fun w => ?_⟩
  have h1 := hv w trivial
  unfold Oper.quietAt at h1
  cases hr : (execOp a.eval o).run P w with
  | ok n w' =>
   obtain ⟨u, rfl⟩ := zMl hp hr
   rw [hr] at h1
   simp only [Oper.quietUpon] at h1
   rw [h1.1, h1.2]
  | halt c w' => rw [hr] at h1; simp only [Oper.quietUpon] at h1
 ·exact .inr h
theorem zJd {l : List Oper} {Q : Exit → Act → World → Prop} {out : List Nat} {f : Nat} {w : World} {R : Act → Prop} (hsel : Region.noSelect l.toArray = true) (hQ : ∀ c a d v w, Q (.panic c) (a.put d v) w → Q (.panic c) a w) :
    ∀ (z : List Nat) (listed : Array Bool) (a : Act), zBy md l.toArray out z listed = true → wpQuiet P l.toArray (fun _ => True) R (zAb l z) a → (∀ a', R a' → wpAny P md l.toArray Q f (zBx listed z) a' w) → wpAny P md l.toArray Q (z.length + f) listed a w
 | [], listed, a, _, h, hR => by rw [List.length_nil, Nat.zero_add]; exact hR a h
 | k :: z, listed, a, hB, h, hR => by
  simp only [zBy, Bool.and_eq_true] at hB
  obtain ⟨⟨⟨⟨hr, hf⟩, hp⟩, _⟩, hB'⟩ := hB
  cases h0 : l.toArray[k]? with
  | none => rw [h0] at hp; cases hp
  | some o =>
   rw [h0] at hp
   have hpo : zJj o = true := hp
   have hpk : zAb l (k :: z) = o :: zAb l z := by
    have : l[k]? = some o := by simpa using h0
    simp [zAb, List.getD_eq_getElem?_getD, this]
   rw [hpk] at h
   have hst : qOp P l.toArray (fun _ => True) k (wpQuiet P l.toArray (fun _ => True) R (zAb l z)) a := by unfold qOp; simp only [h0]; exact h
   obtain ⟨v, hy, hK⟩ := yieldsIn_of_qOp h0 hst
   rw [List.length_cons, show z.length + 1 + f = (z.length + f) + 1 by omega]
   exact wpAny_take h0 hsel hf hr (fun c a w => hQ c a _ _ w) (zQd hpo hy) (zJd hsel hQ z _ _ hB' hK hR)
end
end
end Go.Proofs.YtbolcebmbpepdaaGreatDoor
