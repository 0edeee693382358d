/- Contracts and plain facts, set together by program out of smaller texts. Conditions: none beyond what each theorem states. -/
import Derived.Test.YtbolcebmbpepdaaGreatDoorM01
import Derived.Test.YtbolcebmbpepdaaGreatDoorM03
import Derived.Test.YtbolcebmbpepdaaGreatDoorM27
import Derived.Test.YtbolcebmbpepdaaGreatDoorM08
import Derived.Test.YtbolcebmbpepdaaGreatDoorM21
import Derived.Test.YtbolcebmbpepdaaGreatDoorM23
import Derived.Test.YtbolcebmbpepdaaGreatDoorM14
import Derived.Test.YtbolcebmbpepdaaGreatDoorM15
import Derived.Test.YtbolcebmbpepdaaGreatDoorM02
import Derived.Test.YtbolcebmbpepdaaGreatDoorM13
import Derived.Test.YtbolcebmbpepdaaGreatDoorM09
import Derived.Test.YtbolcebmbpepdaaGreatDoorM10
namespace Go.Proofs.YtbolcebmbpepdaaGreatDoor
set_option linter.unusedVariables false
section
open Go.RowKit
structure WS where
 sh : Nat → Nat → Shf
 ask : Nat → List Int
 gn : Nat → List Int
 st : Nat → List (List Ent)
 bk : Nat → BkS
 lts : List PoD
 top : Int → Int → Int
 lost : Int → Bool
structure StpI where
 kind : Int
 who : Int
 item : Int
 count : Int
 life : Int
 id : Int
 label : Int
 key : Int
def StpI.cells (s : StpI) : List Value := [.int .i64 s.kind, .int .i64 s.who, .int .i64 s.item, .int .i64 s.count, .int .i64 s.life, .int .i64 s.id, .int .i64 s.label, .int .i64 s.key]
theorem StpI.cells_len (s : StpI) : s.cells.length = 8 := rfl
def StpI.val (s : StpI) : Value := .agg #[.int .i64 s.kind, .int .i64 s.who, .int .i64 s.item, .int .i64 s.count, .int .i64 s.life, .int .i64 s.id, .int .i64 s.label, .int .i64 s.key]
def upd1 {α : Type} (f : Nat → α) (i : Nat) (x : α) : Nat → α := fun j => if j = i then x else f j
theorem zCe {α : Type} (f : Nat → α) (i : Nat) (x : α) (j : Nat) : upd1 f i x j = if j = i then x else f j := rfl
theorem zDg {α : Type} (f : Nat → α) (i : Nat) (x : α) : upd1 f i x i = x := by simp [upd1]
theorem zDl {α : Type} (f : Nat → α) {i j : Nat} (x : α) (h : j ≠ i) : upd1 f i x j = f j := by simp [upd1, h]
theorem yCi {α : Type} (f : Nat → α) (i : Nat) : upd1 f i (f i) = f := by funext j; unfold upd1; split <;> simp_all
theorem yDe {α : Type} (f : Nat → α) (i : Nat) (x y : α) : upd1 (upd1 f i x) i y = upd1 f i y := by funext j; unfold upd1; split <;> rfl
def Cfg.n (c : Cfg) : Nat := c.br.toNat
def Cfg.m (c : Cfg) : Nat := c.mi.zs.length
def Cfg.ln (c : Cfg) : Nat := c.la.zs.length
def zAy (code who : Int) : TolD := ⟨code, who, Stk.none, 0, [], [], []⟩
def envs : Nat → List PoD → List Envl
 | _, [] => []
 | k, p :: l => ⟨k, p.fr, p.to_, p.data.length⟩ :: envs (k + 1) l
theorem zPf : ∀ (l : List PoD) (k : Nat), (envs k l).length = l.length
 | [], _ => rfl
 | _ :: l, k => by rw [envs, List.length_cons, List.length_cons, zPf l]
theorem zOe : ∀ (a b : List PoD) (k : Nat), envs k (a ++ b) = envs k a ++ envs (k + a.length) b
 | [], b, k => rfl
 | p :: a, b, k => by
  rw [List.cons_append, envs, envs, zOe a b, List.cons_append, List.length_cons, Nat.add_right_comm, Nat.add_assoc]
def WS.posts (S : WS) (l : List PoD) : WS := { S with lts := S.lts ++ l }
def zHo : Ordr := ⟨7, 0, 0, 0⟩
def WS.aged (S : WS) : WS := { S with sh := fun i k => ((S.sh i k).does zHo).1 }
def zDx (c : Cfg) (S : WS) (i : Nat) (k : Nat) : List PoD := ((List.range k).filter fun j => !(j == i)).map fun j : Nat => ⟨(i : Int), (j : Int), (zAv c i j (S.st i)).1⟩
def zLm (c : Cfg) (S : WS) (i : Nat) : List PoD := ⟨i, c.n, (zCa c (S.ask i)).1⟩ :: zDx c S i c.n
def zAx (c : Cfg) (S : WS) (k : Nat) : List PoD := (List.range k).flatMap (zLm c S)
def zHw (c : Cfg) (S : WS) (j : Nat) : List Int := (zBj c.cap c.tk (S.bk j)).2.1
def zDp (c : Cfg) (S : WS) (j : Nat) : Int := (zBj c.cap c.tk (S.bk j)).2.2
def zBh (c : Cfg) (S : WS) (k : Nat) : List Int := (List.range k).filterMap fun j => if 0 ≤ zDp c S j then some (zDp c S j) else none
def zBq (c : Cfg) (S : WS) (k who : Nat) : List Int := (List.range k).map fun j => (zHw c S j).getD who 0
def WS.rounds (c : Cfg) (S : WS) (k : Nat) : WS := { S with bk := fun j => if j < k then (zBj c.cap c.tk (S.bk j)).1 else S.bk j }
def zBs (c : Cfg) (S : WS) (k : Nat) : List PoD := (List.range k).map fun i : Nat => ⟨(c.n : Int), (i : Int), (zCa c (zBq c S c.m i)).1⟩
def zGj (c : Cfg) (S : WS) : TolD × WS :=
 (⟨0, 0, Stk.none, 0, envs S.lts.length (zAx c S.aged c.n ++ zBs c S c.n), [], zBh c S c.m⟩, (S.aged.rounds c c.m).posts (zAx c S.aged c.n ++ zBs c S c.n))
def WS.to_ (S : WS) (id : Int) : Int := toP S.lts id
def dueW (S : WS) (id : Int) : Int :=
 if S.to_ id < 0 then 6 else match S.lts[id.toNat]? with
  | none => 6
  | some p => if S.lost id || decide (id < S.top p.fr p.to_) then 10 else 0
def WS.lose (S : WS) (id : Int) : WS := { S with lost := fun k => if k = id then true else S.lost k }
def WS.wants (S : WS) (fr : Nat) (l : List Int) (k : Nat) : WS := { S with bk := fun j => if j < k then zEs (S.bk j) fr (l.getD j 0) else S.bk j }
def gnAt (S : WS) (i : Nat) (l : List Int) (k : Nat) : WS :=
 if (S.gn i).getD k 0 < l.getD k 0 then { S with sh := upd1 S.sh i (upd1 (S.sh i) k ((S.sh i k).does ⟨1, l.getD k 0 - (S.gn i).getD k 0, 0, 0⟩).1), gn := upd1 S.gn i ((S.gn i).set k (l.getD k 0)) } else S
def zBa (i : Nat) (l : List Int) : Nat → WS → WS
 | 0, S => S
 | k + 1, S => gnAt (zBa i l k S) i l k
def zEa (R : List (List Ent)) : Nat → List (List Ent) → List (List Ent)
 | 0, q => q
 | k + 1, q => (zEa R k q).set k (zCz ((zEa R k q).getD k []) (R.getD k [])).1
def WS.learns (S : WS) (i : Nat) (R : List (List Ent)) (k : Nat) : WS := { S with st := upd1 S.st i (zEa R k (S.st i)) }
def zFd (c : Cfg) (S : WS) (p : PoD) : WS :=
 if p.to_ = c.br then S.wants p.fr.toNat (zAp c p.data).1 (zAp c p.data).1.length
 else if p.fr = c.br then zBa p.to_.toNat (zAp c p.data).1 (zAp c p.data).1.length S
 else S.learns p.to_.toNat (zBv c p.fr p.to_ p.data).1 (zBv c p.fr p.to_ p.data).1.length
def WS.opened (S : WS) (p : PoD) (id : Int) : WS := { S with top := fun f t => if f = p.fr ∧ t = p.to_ then id + 1 else S.top f t }
def zCj (c : Cfg) (S : WS) (id : Int) : TolD × WS :=
 if dueW S id = 6 then (zAy 6 0, S)
 else match S.lts[id.toNat]? with
  | none => (zAy 6 0, S)
  | some p => if dueW S id ≠ 0 then (zAy (dueW S id) p.to_, S) else (⟨0, p.to_, Stk.none, 0, [], p.data, []⟩, zFd c (S.opened p id) p)
def zBu (c : Cfg) (S : WS) (s : StpI) (i : Nat) : TolD × WS :=
 if s.label < 0 ∨ (c.ln : Int) ≤ s.label ∨ s.key < 0 ∨ 8 ≤ s.key ∨ (s.kind = 7 ∧ (s.count < 0 ∨ 255 < s.count)) then (zAy 2 i, S)
 else if ((c.la.zs.getD s.label.toNat 0).toNat.testBit i) = false then (zAy 11 i, S)
 else if s.kind = 7 then (zAy 0 i, { S with st := upd1 S.st i ((S.st i).set s.label.toNat (putE ((S.st i).getD s.label.toNat []) i s.key s.count false)) })
 else if (zEr ((S.st i).getD s.label.toNat []) s.key).2 = false then (zAy 6 i, S)
 else (⟨0, i, Stk.none, (zEr ((S.st i).getD s.label.toNat []) s.key).1.value, [], [], []⟩, S)
def zAz (c : Cfg) (S : WS) (s : StpI) (i : Nat) : TolD × WS :=
 if s.kind = 7 ∨ s.kind = 8 then zBu c S s i
 else if s.item < 0 ∨ (c.m : Int) ≤ s.item then (zAy 2 i, S)
 else if s.kind = 1 then
  (if s.count < 1 ∨ 1048576 < s.count then (zAy 2 i, S)
   else if 1048576 < (S.ask i).getD s.item.toNat 0 + s.count then (zAy 12 i, S)
   else (zAy 0 i, { S with ask := upd1 S.ask i ((S.ask i).set s.item.toNat ((S.ask i).getD s.item.toNat 0 + s.count)) }))
 else
  let r := (S.sh i s.item.toNat).does ⟨s.kind, s.count, s.life, s.id⟩
  (⟨r.2.code, i, { r.2 with code := 0 }, 0, [], [], []⟩, { S with sh := upd1 S.sh i (upd1 (S.sh i) s.item.toNat r.1) })
def stepW (c : Cfg) (S : WS) (s : StpI) : TolD × WS :=
 if s.kind = 9 then zGj c S
 else if s.kind = 10 then zCj c S s.id
 else if s.kind = 11 then (if dueW S s.id = 0 then (zAy 0 0, S.lose s.id) else (zAy (dueW S s.id) 0, S))
 else if s.kind < 1 ∨ 11 < s.kind then (zAy 3 0, S)
 else if s.who < 0 ∨ c.br ≤ s.who then (zAy 2 0, S)
 else zAz c S s s.who.toNat
def WS.new (c : Cfg) : WS where
 sh := fun _ _ => Shf.new
 ask := fun _ => List.replicate c.m 0
 gn := fun _ => List.replicate c.m 0
 st := fun _ => List.replicate c.ln []
 bk := fun j => if j < c.m then zIp (BkS.new c.n) (c.mi.zs.getD j 0) else BkS.new c.n
 lts := []
 top := fun _ _ => 0
 lost := fun _ => false
def runW (c : Cfg) : List StpI → WS → List TolD × WS
 | [], S => ([], S)
 | s :: l, S => ((stepW c S s).1 :: (runW c l (stepW c S s).2).1, (runW c l (stepW c S s).2).2)
theorem zSo (c : Cfg) (s : StpI) : ∀ (l : List StpI) (S : WS), runW c (l ++ [s]) S = ((runW c l S).1 ++ [(stepW c (runW c l S).2 s).1], (stepW c (runW c l S).2 s).2)
 | [], S => rfl
 | x :: l, S => by
  rw [List.cons_append, runW, zSo c s l, runW]
  rfl
theorem zIc (c : Cfg) : ∀ (l : List StpI) (S : WS), (runW c l S).1.length = l.length
 | [], _ => rfl
 | x :: l, S => by rw [runW, List.length_cons, zIc c l, List.length_cons]
end
section
open Go.RowKit
def tchB (c : Cfg) (x l : Nat) : Bool := (List.range 4).any fun i => x.testBit i && (c.la.zs.getD l 0).toNat.testBit i
theorem yDs : ((List.range 16).all fun l => (List.range 16).all fun x => (bits .and .i64 (l : Int) (x : Int) == 0) == !((List.range 4).any fun i => x.testBit i && l.testBit i)) = true := by kernel_rfl
theorem and_bits {z : Int} {x : Nat} (hz : 0 ≤ z ∧ z < 16) (hx : x < 16) : (bits .and .i64 z (x : Int) == 0) = !((List.range 4).any fun i => x.testBit i && z.toNat.testBit i) := by
 have h1 := List.all_eq_true.1 (List.all_eq_true.1 yDs z.toNat (List.mem_range.2 (by omega))) x (List.mem_range.2 hx)
 rw [Int.toNat_of_nonneg hz.1] at h1
 simpa using h1
def zLr (c : Cfg) (x : Nat) (s : StpI) : Bool := !x.testBit s.who.toNat && (decide (1 ≤ s.kind ∧ s.kind ≤ 6) || (decide (s.kind = 7 ∨ s.kind = 8) && !tchB c x s.label.toNat))
set_option maxRecDepth 100000 in
set_option maxHeartbeats 2000000 in
theorem zWx (c : Cfg) (s : StpI) (x B : Nat) (w : World) (hc : c.ok w B) (hB : B ≤ w.heap.size) (hx : x < 16) (hw : 0 ≤ s.who ∧ s.who < 4) (hl : 0 ≤ s.label ∧ s.label < 3) (hls : c.la.zs.length = 3) (hz : ∀ z ∈ c.la.zs, 0 ≤ z ∧ z < 16) :
    Calls Tryz.prog 34 #[c.val, s.val, .int .i64 x] w fun e w' => e = .returned (.bool (zLr c x s)) ∧ Below w.heap.size w w' := by
 obtain ⟨br, ⟨lA, ln, lc, lz⟩, tk, mi, cap⟩ := c
 obtain ⟨kind, who, item, count, life, id, label, key⟩ := s
 dsimp only at hw hl hls hz
 obtain ⟨u, rfl⟩ : ∃ u : Nat, who = u := ⟨who.toNat, by omega⟩
 obtain ⟨k, rfl⟩ : ∃ k : Nat, label = k := ⟨label.toNat, by omega⟩
 obtain ⟨hl1, hl2, hl3, hl4⟩ := hc.1
 dsimp only at hl1 hl2 hl3 hl4
 rw [hls] at hl1
 subst hl1
 unfold Cfg.val StpI.val
 dsimp only
 obtain ⟨w1, hw1⟩ : ∃ w1, w1 = w.alloc (.cells #[.int .i64 br, .slice lA 3 lc, .int .i64 tk, .slice mi.A mi.n mi.c, .int .i64 cap] 24) := ⟨_, rfl⟩
 obtain ⟨w2, hw2⟩ : ∃ w2, w2 = w1.alloc (.cells #[.int .i64 kind, .int .i64 u, .int .i64 item, .int .i64 count, .int .i64 life, .int .i64 id, .int .i64 k, .int .i64 key] 48) := ⟨_, rfl⟩
 obtain ⟨q, hq⟩ : ∃ q, q = w.heap.size := ⟨_, rfl⟩
 obtain ⟨q2, hq2⟩ : ∃ q2, q2 = w.heap.size + 1 := ⟨_, rfl⟩
 have hs1 : w1.heap.size = w.heap.size + 1 := by rw [hw1]; simp
 have hb1 : Below w.heap.size w w1 := by rw [hw1]; exact (Below.refl _ _).alloc (Nat.le_refl _) _
 have hb2 : Below w.heap.size w w2 := by rw [hw2]; exact hb1.alloc hb1.size _
 have k1 : Blk w2 q 24 #[.int .i64 br, .slice lA 3 lc, .int .i64 tk, .slice mi.A mi.n mi.c, .int .i64 cap] := by rw [hw2, hw1, hq]; exact (Blk.new w 24 _).alloc _
 have k2 : Blk w2 q2 48 #[.int .i64 kind, .int .i64 u, .int .i64 item, .int .i64 count, .int .i64 life, .int .i64 id, .int .i64 k, .int .i64 key] := by rw [hw2, hq2, ← hs1]; exact Blk.new w1 48 _
 have c1 : w2.cell? ⟨q, 1, none⟩ = some (.slice lA 3 lc) := k1.cell 1
 have s0 : w2.cell? ⟨q2, 0, none⟩ = some (.int .i64 kind) := k2.cell 0
 have s1 : w2.cell? ⟨q2, 1, none⟩ = some (.int .i64 u) := k2.cell 1
 have s6 : w2.cell? ⟨q2, 6, none⟩ = some (.int .i64 k) := k2.cell 6
 have hk3 : k < 3 := by omega
 obtain ⟨bl, ol, z, rfl, hbl, hzk, hcz⟩ := zDd (hl4.below (hb2.mono hB)) hk3
 have hz16 := hz z (List.mem_of_getElem? hzk)
 have hgd : lz.getD k 0 = z := by rw [List.getD_eq_getElem?_getD, hzk]; rfl
 have HBT := hide (zYw x u (by omega))
 have HAN := hide (and_bits hz16 hx)
 obtain ⟨P, hP⟩ : ∃ P, P = zLr ⟨br, ⟨some ⟨bl, ol, none⟩, 3, lc, lz⟩, tk, mi, cap⟩ x ⟨kind, u, item, count, life, id, k, key⟩ := ⟨_, rfl⟩
 have hP2 : P = (!x.testBit u && (decide (1 ≤ kind ∧ kind ≤ 6) || (decide (kind = 7 ∨ kind = 8) && !((List.range 4).any fun i => x.testBit i && z.toNat.testBit i)))) := by
  rw [hP]
  unfold zLr tchB
  dsimp only
  rw [Int.toNat_natCast, Int.toNat_natCast, hgd]
 rw [← hP]
 have HB2 := hide hb2
 have HP := hide hP2
 have HW2 := hide hw2
 have HW1 := hide hw1
 have HQ := hide hq
 have HQ2 := hide hq2
 have hk3i : (k : Int) < 3 := by omega
 have hu0 : ¬ ((u : Int) < 0) := by omega
 clear hs1 hP hP2 hb1 hb2 k1 k2 hw2 hw1 hq hq2 hc hl4 hls hz hzk hgd hbl
 go_enter Tryz.func34, Tryz.ntmps34
 go_upto_region 1 with fail
 rw [← zAa HW1, ← zAa HW2, ← zAa HQ2, ← zAa HQ]
 cases ht : x.testBit u with
 | true =>
  have HF := hide (show P = false by rw [zAa HP, ht]; rfl)
  have hbt : (bits .and .i64 ((x : Int) / 2 ^ u) 1 == 1) = true := (zAa HBT).trans ht
  clear HP HAN
  go_wp2_with fail
  go_ret
  exact ⟨zAo (by rw [zAa HF]), zAa HB2⟩
 | false =>
  have hbt : (bits .and .i64 ((x : Int) / 2 ^ u) 1 == 1) = false := (zAa HBT).trans ht
  by_cases h6 : 1 ≤ kind ∧ kind ≤ 6
  ·have HF := hide (show P = true by rw [zAa HP, ht, decide_eq_true h6]; rfl)
   clear HP HAN ht
   obtain h | h | h | h | h | h : kind = 1 ∨ kind = 2 ∨ kind = 3 ∨ kind = 4 ∨ kind = 5 ∨ kind = 6 := by omega
   all_goals
    subst h
    go_wp2_with fail
    go_ret
    exact ⟨zAo (by rw [zAa HF]), zAa HB2⟩
  ·by_cases h7 : kind = 7 ∨ kind = 8
   ·have HF := hide (show P = (bits .and .i64 z (x : Int) == 0) by rw [zAa HP, ht, decide_eq_false h6, decide_eq_true h7, zAa HAN]; rfl)
    clear HP HAN ht h6
    obtain h | h := h7
    all_goals
     subst h
     go_wp2_with fail
     go_ret
     exact ⟨zAo (by rw [zAa HF]), zAa HB2⟩
   ·have HF := hide (show P = false by rw [zAa HP, ht, decide_eq_false h6, decide_eq_false h7]; rfl)
    have d1 : (kind == 1) = false := by simp; omega
    have d2 : (kind == 2) = false := by simp; omega
    have d3 : (kind == 3) = false := by simp; omega
    have d4 : (kind == 4) = false := by simp; omega
    have d5 : (kind == 5) = false := by simp; omega
    have d6 : (kind == 6) = false := by simp; omega
    have d7 : (kind == 7) = false := by simp; omega
    have d8 : (kind == 8) = false := by simp; omega
    clear HP HAN ht h6 h7
    go_wp2_with fail
    go_ret
    exact ⟨zAo (by rw [zAa HF]), zAa HB2⟩
end
section
open Go.RowKit
theorem pick_mod (a n : Int) (hn : 1 ≤ n) : a % n = if a.tmod n < 0 then a.tmod n + n else a.tmod n := by
 have hb1 : -n < a.tmod n := Int.lt_tmod_of_pos a (by omega)
 have hb2 : a.tmod n < n := Int.tmod_lt_of_pos a (by omega)
 have hd : a = a.tmod n + n * a.tdiv n := (Int.tmod_add_mul_tdiv a n).symm
 split
 ·rename_i h
  have h1 : a % n = (a.tmod n + n) % n := by
   conv => lhs; rw [hd, show a.tmod n + n * a.tdiv n = a.tmod n + n + n * (a.tdiv n - 1) by rw [Int.mul_sub]; omega]
   rw [Int.add_mul_emod_self_left]
  rw [h1, Int.emod_eq_of_lt (by omega) (by omega)]
 ·rename_i h
  have h1 : a % n = (a.tmod n) % n := by
   conv => lhs; rw [hd]
   rw [Int.add_mul_emod_self_left]
  rw [h1, Int.emod_eq_of_lt (by omega) (by omega)]
theorem zDo (a n : Int) (w : World) (hn : 1 ≤ n ∧ n ≤ 1000000) : Calls Tryz.prog 15 #[.int .i64 a, .int .i64 n] w fun e w' => e = .returned (.int .i64 (a % n)) ∧ w = w' := by
 have h0 : (n == 0) = false := by simp; omega
 have hb1 : -n < a.tmod n := Int.lt_tmod_of_pos a (by omega)
 have hb2 : a.tmod n < n := Int.tmod_lt_of_pos a (by omega)
 have HP := hide (pick_mod a n hn.1)
 by_cases hneg : a.tmod n < 0
 ·have hdn : decide (a.tmod n < 0) = true := by simpa using hneg
  have HP2 := hide ((zAa HP).trans (if_pos hneg))
  go_enter Tryz.func15, Tryz.ntmps15
  go_wp2_with fail
  go_ret
  exact ⟨zBn (zAa HP2).symm, rfl⟩
 ·have hdn : decide (a.tmod n < 0) = false := by simpa using hneg
  have HP2 := hide ((zAa HP).trans (if_neg hneg))
  go_enter Tryz.func15, Tryz.ntmps15
  go_wp2_with fail
  go_ret
  exact ⟨zBn (zAa HP2).symm, rfl⟩
def lab0 : List Int := [15, 6, 9]
def zGt (zs : List Int) (k : Nat) : List Int := (List.range 3).map fun i => if i < k then zs.getD i 0 % 16 else lab0.getD i 0
def zEu (zs : List Int) : List Int := zGt zs (min 3 zs.length)
theorem zMy (zs : List Int) (k : Nat) : (zGt zs k).length = 3 := by simp [zGt]
theorem yBo (zs : List Int) (k : Nat) (hk : k < 3) : zGt zs (k + 1) = (zGt zs k).set k (zs.getD k 0 % 16) := by
 refine List.ext_getElem? fun i => ?_
 rw [List.getElem?_set, zMy]
 unfold zGt
 by_cases hi : i < 3
 ·by_cases h : k = i
  ·subst h
   simp [hk]
  ·have e : (i < k + 1) = (i < k) := propext ⟨fun _ => by omega, fun _ => by omega⟩
   simp [hi, h, e]
 ·rw [List.getElem?_eq_none (by simp; omega), if_neg (by omega), List.getElem?_eq_none (by simp; omega)]
theorem zMn (zs : List Int) : ∀ z ∈ zEu zs, 0 ≤ z ∧ z < 16 := by
 intro z hz
 unfold zEu zGt at hz
 obtain ⟨i, hi, rfl⟩ := List.mem_map.1 hz
 have h3 := List.mem_range.1 hi
 split
 ·omega
 ·obtain h | h | h : i = 0 ∨ i = 1 ∨ i = 2 := by omega
  all_goals subst h; decide
set_option maxRecDepth 100000 in
theorem zVe (A : Option Addr) (n cc : Nat) (zs : List Int) (B : Nat) (w : World) (hl : zs.length = n) (hm : n ≤ maxLen) (hr : Reads w B 1 A n (zs.map (.int .i64))) (hB : B ≤ w.heap.size) :
    Calls Tryz.prog 31 #[.slice A n cc] w fun e w' => ∃ g, e = .returned (.slice (some ⟨g, 0, none⟩) 3 3) ∧ IRow w' g (zEu zs) [] ∧ w.heap.size ≤ g ∧ Below w.heap.size w w' := by
 obtain ⟨wx, hwx⟩ : ∃ wx, wx = w.alloc (.cells #[.int .i64 15, .int .i64 6, .int .i64 9] 3) := ⟨_, rfl⟩
 obtain ⟨g, hg⟩ : ∃ g, g = w.heap.size := ⟨_, rfl⟩
 have hbx : Below w.heap.size w wx := by rw [hwx]; exact (Below.refl _ _).alloc (Nat.le_refl _) _
 have kx : IRow wx g (zGt zs 0) [] := by rw [hwx, hg]; exact Blk.new _ _ _
 have HPI := hide (fun a W => zDo a 16 W (by omega))
 have HR := hide hr
 have HL := hide hl
 have HG := hide hg
 have HWX := hide hwx
 have HB := hide hB
 have HK := hide (And.intro kx hbx)
 unfold maxLen at hm
 clear hr hl hg hwx hbx kx hB
 go_enter Tryz.func31, Tryz.ntmps31
 go_upto_region 2 with fail
 rw [← zAa HWX, ← zAa HG]
 go_wp2_with fail
 go_loopw [4] (fun i wr => ∃ k : Nat, k ≤ 3 ∧ k ≤ n ∧ i = .int .i64 k ∧ Hid (IRow wr g (zGt zs k) [] ∧ Below w.heap.size w wr)) (fun i _ => 3 - (intOf i).toNat)
 case atStart => exact ⟨0, by omega, by omega, rfl, HK⟩
 case round =>
  obtain ⟨k, hk, hkn, rfl, HA⟩ := hrel
  by_cases h3 : k < 3
  ·by_cases hn : k < n
   ·have d1 : decide ((k : Int) < 3) = true := by simp; omega
    have d2 : decide ((k : Int) < (n : Int)) = true := by simp; omega
    have hi3 : (k : Int) < 3 := by omega
    have hin : (k : Int) < (n : Int) := by omega
    obtain ⟨bz, oz, z, hA, hbz, hz, hcz⟩ := zDd ((zAa HR).below ((zAa HA).2.mono (zAa HB))) hn
    subst hA
    have HZ := hide (show zs.getD k 0 = z by rw [List.getD_eq_getElem?_getD, hz]; rfl)
    have hlt : k < (zGt zs k).length := by rw [zMy]; exact h3
    have c1 := (zAa HA).1.cell (List.getElem?_eq_getElem hlt)
    have f1 := (zAa HA).1.frozen k
    clear hz hbz
    go_wp2_with fail
    refine (zAa HPI z _).mono ?_
    rintro _ _ ⟨rfl, rfl⟩
    go_wp2_with fail
    go_roundw
    case rel => exact ⟨k + 1, by omega, by omega, by go_num, hide ⟨by rw [yBo zs k h3, zAa HZ]; exact (zAa HA).1.set_ hlt _, (zAa HA).2.setCell (p := ⟨g, k, none⟩) (by rw [zAa HG]; exact Nat.le_refl _) _⟩⟩
    case measure => simp [intOf]; omega
   ·obtain rfl : k = n := by omega
    have d1 : decide ((k : Int) < 3) = true := by simp; omega
    have d2 : decide ((k : Int) < (k : Int)) = false := by simp
    have HF := hide (show zGt zs k = zEu zs by unfold zEu; rw [zAa HL, Nat.min_eq_right (by omega)])
    go_wp2_with fail
    go_ret
    exact ⟨g, rfl, by rw [← zAa HF]; exact (zAa HA).1, by rw [zAa HG]; exact Nat.le_refl _, (zAa HA).2⟩
  ·obtain rfl : k = 3 := by omega
   have d1 : decide ((3 : Int) < 3) = false := by simp
   have HF := hide (show zGt zs 3 = zEu zs by unfold zEu; rw [zAa HL, Nat.min_eq_left (by omega)])
   go_wp2_with fail
   go_ret
   exact ⟨g, rfl, by rw [← zAa HF]; exact (zAa HA).1, by rw [zAa HG]; exact Nat.le_refl _, (zAa HA).2⟩
end
section
open Go.RowKit
structure CfgNew (w' : World) (B : Nat) (c : Cfg) (g h : Nat) (ls : List Int) (ticks minted most : Int) : Prop where
 br : c.br = 4
 la : c.la = ⟨some ⟨g, 0, none⟩, 3, 3, ls⟩
 tk : c.tk = 1 + ticks % 4
 mi : c.mi = ⟨some ⟨h, 0, none⟩, 2, 2, [minted % 60, wrap64 (minted.tdiv 60) % 60]⟩
 cap : c.cap = most % 20
 rg : IRow w' g ls []
 rh : IRow w' h [minted % 60, wrap64 (minted.tdiv 60) % 60] []
 low : B ≤ g ∧ B ≤ h
 ne : g ≠ h
set_option maxRecDepth 100000 in
theorem zVw (A : Option Addr) (n cc : Nat) (zs : List Int) (ticks minted most : Int) (B : Nat) (w : World) (hl : zs.length = n) (hm : n ≤ maxLen) (hr : Reads w B 1 A n (zs.map (.int .i64))) (hB : B ≤ w.heap.size) :
    Calls Tryz.prog 14 #[.slice A n cc, .int .i64 ticks, .int .i64 minted, .int .i64 most] w fun e w' => ∃ c g h, e = .returned c.val ∧ CfgNew w' w.heap.size c g h (zEu zs) ticks minted most ∧ Below w.heap.size w w' := by
 obtain ⟨wx, hwx⟩ : ∃ wx, wx = w.alloc (.cells #[.int .i64 0, .slice none 0 0, .int .i64 0, .slice none 0 0, .int .i64 0] 24) := ⟨_, rfl⟩
 obtain ⟨q, hq⟩ : ∃ q, q = w.heap.size := ⟨_, rfl⟩
 have hbx : Below w.heap.size w wx := by rw [hwx]; exact (Below.refl _ _).alloc (Nat.le_refl _) _
 have kx : Blk wx q 24 #[.int .i64 0, .slice none 0 0, .int .i64 0, .slice none 0 0, .int .i64 0] := by rw [hwx, hq]; exact Blk.new _ _ _
 have HLO := hide (zVe A n cc zs B wx hl hm (hr.below (hbx.mono hB)) (Nat.le_trans hB hbx.size))
 have HP4 := hide (fun a W => zDo a 4 W (by omega))
 have HP60 := hide (fun a W => zDo a 60 W (by omega))
 have HP20 := hide (fun a W => zDo a 20 W (by omega))
 have hb4 : 0 ≤ ticks % 4 ∧ ticks % 4 < 4 := by omega
 have HQ := hide hq
 have HBX := hide hbx
 have HKX := hide kx
 have HWX := hide hwx
 clear hwx hq hbx kx hr hl hB hm
 go_enter Tryz.func14, Tryz.ntmps14
 go_upto_region 1 with fail
 rw [← zAa HWX, ← zAa HQ]
 go_wp2_with fail
 refine (zAa HLO).mono ?_
 rintro _ w2 ⟨g, rfl, hrg, hg, hb2⟩
 have HRG := hide hrg
 have HGL := hide hg
 have HB2 := hide ((zAa HBX).trans (hb2.mono (zAa HBX).size))
 have HK2 := hide ((zAa HKX).below hb2 (zAa HKX).lt)
 clear hrg hg hb2
 go_wp2_with fail
 refine (zAa HP4 _ _).mono ?_
 rintro _ _ ⟨rfl, rfl⟩
 go_wp2_with fail
 refine (zAa HP60 _ _).mono ?_
 rintro _ _ ⟨rfl, rfl⟩
 go_wp2_with fail
 refine (zAa HP60 _ _).mono ?_
 rintro _ _ ⟨rfl, rfl⟩
 obtain ⟨w3, hw3⟩ : ∃ w3, w3 = w2.alloc (.cells #[.int .i64 (minted % 60), .int .i64 (wrap64 (minted.tdiv 60) % 60)] 3) := ⟨_, rfl⟩
 obtain ⟨h, hh⟩ : ∃ h, h = w2.heap.size := ⟨_, rfl⟩
 have hb3 : Below w2.heap.size w2 w3 := by rw [hw3]; exact (Below.refl _ _).alloc (Nat.le_refl _) _
 have k3 : IRow w3 h [minted % 60, wrap64 (minted.tdiv 60) % 60] [] := by rw [hw3, hh]; exact Blk.new _ _ _
 have hrg3 := Blk.below (zAa HRG) hb3 (Blk.lt (zAa HRG))
 have hne : g ≠ h := by have := Blk.lt (zAa HRG); omega
 have hhl : w.heap.size ≤ h := by rw [hh]; exact (zAa HB2).size
 have k3q := (zAa HK2).below hb3 (zAa HK2).lt
 have H3 := hide (And.intro k3 (And.intro hrg3 (And.intro hne hhl)))
 have HB3 := hide ((zAa HB2).trans (hb3.mono (zAa HB2).size))
 have HK3 := hide k3q
 have HW3 := hide hw3
 have HHH := hide hh
 clear hw3 hh hb3 k3 hrg3 hne hhl k3q
 go_wp2_with fail
 rw [← zAa HW3, ← zAa HHH]
 refine (zAa HP20 _ _).mono ?_
 rintro _ _ ⟨rfl, rfl⟩
 have f0 := (zAa HK3).frozen 0
 have f1 := (zAa HK3).frozen 1
 have f2 := (zAa HK3).frozen 2
 have f3 := (zAa HK3).frozen 3
 have f4 := (zAa HK3).frozen 4
 have c0 := (zAa HK3).cell 0
 have c1 := (zAa HK3).cell 1
 have c2 := (zAa HK3).cell 2
 have c3 := (zAa HK3).cell 3
 have c4 := (zAa HK3).cell 4
 go_wp2_with fail
 have k9 := (((((zAa HK3).set_ 0 (.int .i64 4)).set_ 1 (.slice (some ⟨g, 0, none⟩) 3 3)).set_ 2 (.int .i64 (1 + ticks % 4))).set_ 3 (.slice (some ⟨h, 0, none⟩) 2 2)).set_ 4 (.int .i64 (most % 20))
 have ho : Only (fun k => k = q) w3 _ := zAg (zAg (zAg (zAg (zAg (Only.refl _ w3) 0 (.int .i64 4)) 1 (.slice (some ⟨g, 0, none⟩) 3 3)) 2 (.int .i64 (1 + ticks % 4))) 3 (.slice (some ⟨h, 0, none⟩) 2 2)) 4 (.int .i64 (most % 20))
 have HO := hide ho
 clear c0 c1 c2 c3 c4 f0 f1 f2 f3 f4 ho
 have d0 := k9.cell 0
 have d1 := k9.cell 1
 have d2 := k9.cell 2
 have d3 := k9.cell 3
 have d4 := k9.cell 4
 have hf : ∀ {p : Nat} {zs : List Int}, IRow w3 p zs [] → IRow _ p zs [] := fun hr => Blk.only hr (zAa HO) (fun e => Blk.ne_ hr (zAa HK3) (by decide) e)
 obtain ⟨r1, r2, r3, r4⟩ := zAa H3
 refine bodyPost_ret (v := .agg #[.int .i64 4, .slice (some ⟨g, 0, none⟩) 3 3, .int .i64 (1 + ticks % 4), .slice (some ⟨h, 0, none⟩) 2 2, .int .i64 (most % 20)]) (by simp [results, Tryz.results14, go_sem, d0, d1, d2, d3, d4]) rfl
  ⟨⟨4, ⟨some ⟨g, 0, none⟩, 3, 3, zEu zs⟩, 1 + ticks % 4, ⟨some ⟨h, 0, none⟩, 2, 2, [minted % 60, wrap64 (minted.tdiv 60) % 60]⟩, most % 20⟩, g, h, rfl, ⟨rfl, rfl, rfl, rfl, rfl, hf r2, hf r1, ⟨Nat.le_trans (zAa HBX).size (zAa HGL), r4⟩, r3⟩, ?_⟩
 exact (zAa HB3).trans ((zAa HO).to_below (fun x hx _ e => by have := zAa HQ; omega) (zAa HB3).size)
theorem CfgNew.ok {w' : World} {B : Nat} {c : Cfg} {g h : Nat} {ls : List Int} {ticks minted most : Int} (hc : CfgNew w' B c g h ls ticks minted most) (hl : ls.length = 3) (hb : ∀ z ∈ ls, 0 ≤ z ∧ z < 16) : c.ok w' w'.heap.size ∧ zAh c = true := by
 obtain ⟨h1, h2, h3, h4, h5, h6, h7, _, _⟩ := hc
 refine ⟨⟨?_, ?_, fun z hz => ?_⟩, ?_⟩
 ·rw [h2]
  exact ⟨hl, Nat.le_refl _, by dsimp only; unfold maxLen; omega, h6.reads hl⟩
 ·rw [h4]
  exact ⟨rfl, Nat.le_refl _, by dsimp only; unfold maxLen; omega, h7.reads rfl⟩
 ·rw [h2] at hz
  have := hb z hz
  exact WalkArith.wf_i64 (by omega)
 ·unfold zAh inB
  rw [h1, h2, h3, h4, h5]
  have e1 : (ls.any (zFb 4)) = false := by
   rw [List.any_eq_false]
   intro z hz
   have := hb z hz
   unfold zFb
   simp
   omega
  simp only [Bool.and_eq_true, decide_eq_true_eq, Bool.not_eq_true']
  refine ⟨⟨⟨⟨⟨⟨⟨by omega, by omega⟩, by omega⟩, by omega, by omega⟩, by simp, by simp⟩, by omega, by omega⟩, e1⟩, ?_⟩
  rw [List.any_eq_false]
  intro z hz
  have hb2 : 0 ≤ z ∧ z < 60 := by
   simp only [List.mem_cons, List.not_mem_nil, or_false] at hz
   rcases hz with rfl | rfl <;> omega
  unfold badN
  simp
  omega
def zEv : StpI := ⟨9, 0, 0, 0, 0, 0, 0, 0⟩
def zFu (id : Int) : StpI := ⟨10, 0, 0, 0, 0, id, 0, 0⟩
def zDr : List StpI → Nat
 | [] => 0
 | s :: l => (if s.kind = 9 then 20 else 0) + zDr l
theorem zLt : ∀ l : List StpI, zDr l ≤ 20 * l.length
 | [] => Nat.le_refl _
 | s :: l => by have := zLt l; rw [zDr, List.length_cons]; split <;> omega
theorem zLd : ∀ a b : List StpI, zDr (a ++ b) = zDr a + zDr b
 | [], b => by simp [zDr]
 | s :: a, b => by rw [List.cons_append, zDr, zDr, zLd a b]; omega
def zFp (w : World) (base : Nat) (v : Value) (l : List StpI) : Prop := w.ownsRow base 48 8 v l.length (l.flatMap StpI.cells)
theorem zGn {w w' : World} {v : Value} (h : w.grownBy w' v.ownBlock) (hv : v.ownBlock = none := by rfl) : Below w.heap.size w w' := by
 rw [hv] at h
 exact ⟨h.os, h.tape, h.output, h.size, fun k hk => h.block k hk (by simp)⟩
theorem zKb : ∃ i, Tryz.prog.info? 48 = some i ∧ i.zero = some (.agg #[.int .i64 0, .int .i64 0, .int .i64 0, .int .i64 0, .int .i64 0, .int .i64 0, .int .i64 0, .int .i64 0]) ∧ i.size = 8 ∧ i.bytes = 64 := zEm (by kernel_rfl)
end
end Go.Proofs.YtbolcebmbpepdaaGreatDoor
