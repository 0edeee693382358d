/- Contracts and plain facts, set together by program out of smaller texts. Conditions: none beyond what each theorem states. -/
import Derived.Test.YtbolcebmbpepdaaGreatDoorProg
import Derived.BigQuiet
import Derived.Deep.RegionHeld3
import Derived.StillTailTactics
import Derived.Lib.SliceRun
import Derived.Test.YtbolcebmbpepdaaGreatDoorM02
import Derived.Test.YtbolcebmbpepdaaGreatDoorM01
import Derived.Test.YtbolcebmbpepdaaGreatDoorM11
import Derived.Test.YtbolcebmbpepdaaGreatDoorM03
namespace Go.Proofs.YtbolcebmbpepdaaGreatDoor
set_option linter.unusedVariables false
section
open Go.RowKit Go.ChangeShapes Go.WideShapes Go.Deep
structure Ent where
 key : Int
 value : Int
 time : Int
 who : Int
 gone : Bool
deriving DecidableEq
def zAd (e : Ent) : List Value := [.int .i64 e.key, .int .i64 e.value, .int .i64 e.time, .int .i64 e.who, .bool e.gone]
theorem zBd (e : Ent) : (zAd e).length = 5 := rfl
def inP (n m : Int) : Bool := decide (0 ≤ n) && decide (n ≤ m)
def oneP (e : Ent) : Bool := inP e.key 1048576 && inP e.value 1048576 && inP e.time 1048576 && inP e.who 7 && !(e.gone && decide (0 < e.value))
def entV (e : Ent) : Value := .agg #[.int .i64 e.key, .int .i64 e.value, .int .i64 e.time, .int .i64 e.who, .bool e.gone]
theorem zKh (n m : Int) (w : World) : Calls Tryz.prog 143 #[.int .i64 n, .int .i64 m] w fun e w' => e = .returned (.bool (inP n m)) ∧ w = w' := by
 by_cases h0 : 0 ≤ n
 ·have HF := hide (show inP n m = decide (n ≤ m) by simp [inP, h0])
  go_enter Tryz.func143, Tryz.ntmps143
  go_wp2
  go_ret
  exact ⟨zAo (by rw [zAa HF]), rfl⟩
 ·have HF := hide (show inP n m = false by simp [inP, h0])
  go_enter Tryz.func143, Tryz.ntmps143
  go_wp2
  go_ret
  exact ⟨zAo (by rw [zAa HF]), rfl⟩
set_option maxHeartbeats 1600000 in
theorem yAx (e : Ent) (w : World) : Calls Tryz.prog 128 #[entV e] w fun x w' => x = .returned (.bool (oneP e)) ∧ w.alloc (.cells (zAd e).toArray 125) = w' := by
 obtain ⟨k, v, t, o, g⟩ := e
 have H1 := hide (fun W => zKh k 1048576 W)
 have H2 := hide (fun W => zKh v 1048576 W)
 have H3 := hide (fun W => zKh t 1048576 W)
 have H4 := hide (fun W => zKh o 7 W)
 have HF := hide (show oneP ⟨k, v, t, o, g⟩ = (inP k 1048576 && inP v 1048576 && inP t 1048576 && inP o 7 && !(g && decide (0 < v))) from rfl)
 obtain ⟨b1, h1⟩ : ∃ b, inP k 1048576 = b := ⟨_, rfl⟩
 obtain ⟨b2, h2⟩ : ∃ b, inP v 1048576 = b := ⟨_, rfl⟩
 obtain ⟨b3, h3⟩ : ∃ b, inP t 1048576 = b := ⟨_, rfl⟩
 obtain ⟨b4, h4⟩ : ∃ b, inP o 7 = b := ⟨_, rfl⟩
 rw [h1] at H1; rw [h2] at H2; rw [h3] at H3; rw [h4] at H4
 rw [h1, h2, h3, h4] at HF
 clear h1 h2 h3 h4
 unfold entV zAd
 cases b1
 ·skip
  go_enter Tryz.func128, Tryz.ntmps128
  go_wp2_with fail
  refine (zAa H1 _).mono ?_
  rintro _ _ ⟨rfl, rfl⟩
  go_wp2_with fail
  go_ret
  exact ⟨zAo (by rw [zAa HF]; rfl), rfl⟩
 cases b2
 ·skip
  go_enter Tryz.func128, Tryz.ntmps128
  go_wp2_with fail
  refine (zAa H1 _).mono ?_
  rintro _ _ ⟨rfl, rfl⟩
  go_wp2_with fail
  refine (zAa H2 _).mono ?_
  rintro _ _ ⟨rfl, rfl⟩
  go_wp2_with fail
  go_ret
  exact ⟨zAo (by rw [zAa HF]; rfl), rfl⟩
 cases b3
 ·skip
  go_enter Tryz.func128, Tryz.ntmps128
  go_wp2_with fail
  refine (zAa H1 _).mono ?_
  rintro _ _ ⟨rfl, rfl⟩
  go_wp2_with fail
  refine (zAa H2 _).mono ?_
  rintro _ _ ⟨rfl, rfl⟩
  go_wp2_with fail
  refine (zAa H3 _).mono ?_
  rintro _ _ ⟨rfl, rfl⟩
  go_wp2_with fail
  go_ret
  exact ⟨zAo (by rw [zAa HF]; rfl), rfl⟩
 cases b4
 ·skip
  go_enter Tryz.func128, Tryz.ntmps128
  go_wp2_with fail
  refine (zAa H1 _).mono ?_
  rintro _ _ ⟨rfl, rfl⟩
  go_wp2_with fail
  refine (zAa H2 _).mono ?_
  rintro _ _ ⟨rfl, rfl⟩
  go_wp2_with fail
  refine (zAa H3 _).mono ?_
  rintro _ _ ⟨rfl, rfl⟩
  go_wp2_with fail
  refine (zAa H4 _).mono ?_
  rintro _ _ ⟨rfl, rfl⟩
  go_wp2_with fail
  go_ret
  exact ⟨zAo (by rw [zAa HF]; rfl), rfl⟩
 cases g
 ·skip
  go_enter Tryz.func128, Tryz.ntmps128
  go_wp2_with fail
  refine (zAa H1 _).mono ?_
  rintro _ _ ⟨rfl, rfl⟩
  go_wp2_with fail
  refine (zAa H2 _).mono ?_
  rintro _ _ ⟨rfl, rfl⟩
  go_wp2_with fail
  refine (zAa H3 _).mono ?_
  rintro _ _ ⟨rfl, rfl⟩
  go_wp2_with fail
  refine (zAa H4 _).mono ?_
  rintro _ _ ⟨rfl, rfl⟩
  go_wp2_with fail
  go_ret
  exact ⟨zAo (by rw [zAa HF]; rfl), rfl⟩
 go_enter Tryz.func128, Tryz.ntmps128
 go_wp2_with fail
 refine (zAa H1 _).mono ?_
 rintro _ _ ⟨rfl, rfl⟩
 go_wp2_with fail
 refine (zAa H2 _).mono ?_
 rintro _ _ ⟨rfl, rfl⟩
 go_wp2_with fail
 refine (zAa H3 _).mono ?_
 rintro _ _ ⟨rfl, rfl⟩
 go_wp2_with fail
 refine (zAa H4 _).mono ?_
 rintro _ _ ⟨rfl, rfl⟩
 go_wp2_with fail
 go_ret
 exact ⟨zAo (by rw [zAa HF]; rfl), rfl⟩
end
section
open Go.RowKit
def cmpP (a b : Int) : Int := if a < b then -1 else if b < a then 1 else 0
def flagP (b : Bool) : Int := if b then 1 else 0
def orP : List Int → Int
 | [] => 0
 | z :: l => if z ≠ 0 then z else orP l
def zUl (a b : Ent) : List Int := [cmpP a.time b.time, cmpP a.who b.who, cmpP (flagP b.gone) (flagP a.gone), cmpP a.value b.value]
def zPr (a b : Ent) : Bool := decide (0 < orP (zUl a b))
theorem yCt (x : Int) (w : World) : Calls Tryz.prog 152 #[.int .i64 x] w fun e w' => e = .returned (.bool false) ∧ w' = w := by
 go_enter Tryz.func152, Tryz.ntmps152
 go_wp2
 go_ret
 exact ⟨by simp, rfl⟩
theorem zRd (x y : Int) (w : World) : Calls Tryz.prog 149 #[.int .i64 x, .int .i64 y] w fun e w' => e = .returned (.int .i64 (cmpP x y)) ∧ w' = w := by
 have H := hide (fun z => yCt z w)
 by_cases h1 : x < y
 ·have HF := hide (show cmpP x y = -1 by simp [cmpP, h1])
  go_enter Tryz.func149, Tryz.ntmps149
  go_wp2_with fail
  refine (zAa H _).mono ?_
  rintro _ _ ⟨rfl, rfl⟩
  go_wp2_with fail
  refine (zAa H _).mono ?_
  rintro _ _ ⟨rfl, rfl⟩
  go_wp2_with fail
  go_ret
  exact ⟨zBn (zAa HF).symm, rfl⟩
 ·by_cases h2 : y < x
  ·have HF := hide (show cmpP x y = 1 by simp [cmpP, h1, h2])
   go_enter Tryz.func149, Tryz.ntmps149
   go_wp2_with fail
   refine (zAa H _).mono ?_
   rintro _ _ ⟨rfl, rfl⟩
   go_wp2_with fail
   refine (zAa H _).mono ?_
   rintro _ _ ⟨rfl, rfl⟩
   go_wp2_with fail
   go_ret
   exact ⟨zBn (zAa HF).symm, rfl⟩
  ·have HF := hide (show cmpP x y = 0 by simp [cmpP, h1, h2])
   go_enter Tryz.func149, Tryz.ntmps149
   go_wp2_with fail
   refine (zAa H _).mono ?_
   rintro _ _ ⟨rfl, rfl⟩
   go_wp2_with fail
   refine (zAa H _).mono ?_
   rintro _ _ ⟨rfl, rfl⟩
   go_wp2_with fail
   go_ret
   exact ⟨zBn (zAa HF).symm, rfl⟩
theorem flag_any (b : Bool) (w : World) : Calls Tryz.prog 150 #[.bool b] w fun e w' => e = .returned (.int .i64 (flagP b)) ∧ w' = w := by
 cases b
 ·go_enter Tryz.func150, Tryz.ntmps150
  go_wp2
  go_ret
  exact ⟨rfl, rfl⟩
 ·go_enter Tryz.func150, Tryz.ntmps150
  go_wp2
  go_ret
  exact ⟨rfl, rfl⟩
theorem yDx (A : Option Addr) (n c : Nat) (zs : List Int) (B : Nat) (w : World) (hl : zs.length = n) (hm : n ≤ maxLen) (hr : Reads w B 1 A n (zs.map (.int .i64))) :
    Calls Tryz.prog 148 #[.slice A n c] w fun e w' => e = .returned (.int .i64 (orP zs)) ∧ w' = w := by
 have HR := hide hr
 have HL := hide hl
 unfold maxLen at hm
 clear hr hl
 go_enter Tryz.func148, Tryz.ntmps148
 go_wp2_with fail
 go_loop [8] (fun i => ∃ (k : Nat), k ≤ n ∧ i = .int .i64 k ∧ Hid (orP (zs.drop k) = orP zs)) (fun i => n - (intOf i).toNat)
 case atStart => exact ⟨0, Nat.zero_le _, rfl, rfl⟩
 case round =>
  obtain ⟨k, hk, rfl, HI⟩ := hrel
  by_cases hlt : k < n
  ·obtain ⟨b, o, z, rfl, _, hz, hc⟩ := zDd (zAa HR) hlt
   have HI2 := hide (by have h := zAa HI; rw [zCb zs k z hz, orP] at h; exact h)
   clear HI hz
   by_cases hz0 : z = 0
   ·have HI3 := hide (by have h := zAa HI2; rw [if_neg (by simpa using hz0)] at h; exact h)
    clear HI2
    subst hz0
    go_wp2_with fail
    go_round
    case rel => exact ⟨k + 1, by omega, by go_num, zAa HI3⟩
    case measure => simp [intOf]; omega
   ·have HI3 := hide (by have h := zAa HI2; rw [if_pos hz0] at h; exact h)
    clear HI2
    go_wp2_with fail
    go_ret
    exact ⟨zBn (zAa HI3), rfl⟩
  ·obtain rfl : k = n := by omega
   have HF := hide (show orP zs = 0 by
    have h := zAa HI
    rw [List.drop_of_length_le (by rw [zAa HL]; exact Nat.le_refl _)] at h
    exact h.symm)
   clear HI
   go_wp2_with fail
   go_ret
   exact ⟨zBn (zAa HF).symm, rfl⟩
set_option maxRecDepth 100000 in
set_option maxHeartbeats 1600000 in
theorem zUq (a b : Ent) (w : World) : Calls Tryz.prog 138 #[entV a, entV b] w fun e w' => e = .returned (.bool (zPr a b)) ∧ Below w.heap.size w w' := by
 obtain ⟨k, v, t, o, g⟩ := a
 obtain ⟨k', v', t', o', g'⟩ := b
 have HC := hide zRd
 have HF := hide flag_any
 have HO := hide yDx
 unfold entV
 go_enter Tryz.func138, Tryz.ntmps138
 go_wp2_with fail
 have hb := ((Below.refl w.heap.size w).alloc (Nat.le_refl _) (.cells #[.int .i64 k, .int .i64 v, .int .i64 t, .int .i64 o, .bool g] 125)).alloc (by simp) (.cells #[.int .i64 k', .int .i64 v', .int .i64 t', .int .i64 o', .bool g'] 125)
 have ha := (Blk.new w 125 #[.int .i64 k, .int .i64 v, .int .i64 t, .int .i64 o, .bool g]).alloc (.cells #[.int .i64 k', .int .i64 v', .int .i64 t', .int .i64 o', .bool g'] 125)
 have hc := Blk.new (w.alloc (.cells #[.int .i64 k, .int .i64 v, .int .i64 t, .int .i64 o, .bool g] 125)) 125 #[.int .i64 k', .int .i64 v', .int .i64 t', .int .i64 o', .bool g']
 refine wp_region_still_tail 22 (by kernel_rfl) (by kernel_rfl) ?_
 simp only [List.take_succ_cons, List.take_zero, List.drop_succ_cons, List.drop_zero]
 change wpStill _ _ (((w.alloc (.cells #[.int .i64 k, .int .i64 v, .int .i64 t, .int .i64 o, .bool g] 125)).alloc (.cells #[.int .i64 k', .int .i64 v', .int .i64 t', .int .i64 o', .bool g'] 125)).drew) (fun a' => wpList _ _ _ _ a' (((w.alloc (.cells #[.int .i64 k, .int .i64 v, .int .i64 t, .int .i64 o, .bool g] 125)).alloc (.cells #[.int .i64 k', .int .i64 v', .int .i64 t', .int .i64 o', .bool g'] 125)).drew)) _ _
 replace hb := hb.drew
 replace ha := ha.drew
 replace hc := hc.drew
 generalize ((w.alloc (.cells #[.int .i64 k, .int .i64 v, .int .i64 t, .int .i64 o, .bool g] 125)).alloc (.cells #[.int .i64 k', .int .i64 v', .int .i64 t', .int .i64 o', .bool g'] 125)).drew = w3 at *
 have hs : (w.alloc (.cells #[.int .i64 k, .int .i64 v, .int .i64 t, .int .i64 o, .bool g] 125)).heap.size = w.heap.size + 1 := by simp
 rw [hs] at hc
 have a1 : w3.cell? ⟨w.heap.size, 1, none⟩ = some (.int .i64 v) := ha.cell 1
 have a2 : w3.cell? ⟨w.heap.size, 2, none⟩ = some (.int .i64 t) := ha.cell 2
 have a3 : w3.cell? ⟨w.heap.size, 3, none⟩ = some (.int .i64 o) := ha.cell 3
 have a4 : w3.cell? ⟨w.heap.size, 4, none⟩ = some (.bool g) := ha.cell 4
 have b1 : w3.cell? ⟨w.heap.size + 1, 1, none⟩ = some (.int .i64 v') := hc.cell 1
 have b2 : w3.cell? ⟨w.heap.size + 1, 2, none⟩ = some (.int .i64 t') := hc.cell 2
 have b3 : w3.cell? ⟨w.heap.size + 1, 3, none⟩ = some (.int .i64 o') := hc.cell 3
 have b4 : w3.cell? ⟨w.heap.size + 1, 4, none⟩ = some (.bool g') := hc.cell 4
 have HB := hide hb
 clear ha hc hs hb
 repeat (first | still_step | still_call (zAa HC _ _ _) | still_call (zAa HF _ _))
 refine wpStill_nil ?_
 go_wp2_with fail
 have hrr := zCh (cs := (zUl ⟨k, v, t, o, g⟩ ⟨k', v', t', o', g'⟩).map (.int .i64)) (Blk.new w3 3 _) (Nat.lt_succ_self _)
 refine (zAa HO _ 4 4 (zUl ⟨k, v, t, o, g⟩ ⟨k', v', t', o', g'⟩) _ _ rfl (by unfold maxLen; omega) hrr).mono ?_
 rintro _ _ ⟨rfl, rfl⟩
 go_wp2_with fail
 go_ret
 exact ⟨rfl, (zAa HB).alloc (zAa HB).size _⟩
end
section
open Go.RowKit
def above (p : Option Int) (k : Int) : Bool := match p with
 | none => true
 | some q => decide (q < k)
def zEd : List Ent → Option Int → Bool
 | [], _ => true
 | e :: l, p => oneP e && above p e.key && zEd l (some e.key)
def mayP (l : List Ent) : Bool := zEd l none && decide (l.length ≤ 8)
def zJl (l : List Ent) (k : Nat) : Option Int := if k = 0 then none else (l[k - 1]?).map (·.key)
theorem zJy (l : List Ent) (k : Nat) (e : Ent) (h : l[k]? = some e) : zJl l (k + 1) = some e.key := by simp [zJl, h]
theorem zJb (A : Option Addr) (n c : Nat) (l : List Ent) (B : Nat) (w : World) (hl : l.length = n) (hm : n ≤ maxLen) (hr : Reads w B 5 A n (l.flatMap zAd)) (hB : B ≤ w.heap.size) :
    Calls Tryz.prog 107 #[.slice A n c] w fun e w' => e = .returned (.bool (mayP l)) ∧ Below w.heap.size w w' := by
 have HR := hide (hr.more hB)
 have HL := hide hl
 unfold maxLen at hm
 clear hr hl
 go_enter Tryz.func107, Tryz.ntmps107
 go_wp2_with fail
 go_loopw [7] (fun i wr => ∃ (k : Nat), k ≤ n ∧ i = .int .i64 k ∧ Below w.heap.size w wr ∧ Hid (zEd (l.drop k) (zJl l k) = zEd l none)) (fun i _ => n - (intOf i).toNat)
 case atStart => exact ⟨0, Nat.zero_le _, rfl, Below.refl _ _, rfl⟩
 case round =>
  obtain ⟨k, hk, rfl, hb, HI⟩ := hrel
  by_cases hlt : k < n
  ·obtain ⟨b, o, e, rfl, hbl, he, hc⟩ := zCf zBd (by omega) ((zAa HR).below hb) hlt (zAa HL)
   have c0 : wr.cell? ⟨b, o + k * 5, none⟩ = some (.int .i64 e.key) := hc 0 _ rfl
   have c1 : wr.cell? ⟨b, o + k * 5 + 1, none⟩ = some (.int .i64 e.value) := hc 1 _ rfl
   have c2 : wr.cell? ⟨b, o + k * 5 + 2, none⟩ = some (.int .i64 e.time) := hc 2 _ rfl
   have c3 : wr.cell? ⟨b, o + k * 5 + 3, none⟩ = some (.int .i64 e.who) := hc 3 _ rfl
   have c4 : wr.cell? ⟨b, o + k * 5 + 4, none⟩ = some (.bool e.gone) := hc 4 _ rfl
   have HI2 := hide (by have h := zAa HI; rw [zCb l k e he, zEd] at h; exact h)
   have HE := hide he
   have hsz := hb.size
   have hbl' : b < wr.heap.size := by omega
   clear HI hc he
   have HO := hide (show ∀ W, Calls Tryz.prog 128 #[.agg #[.int .i64 e.key, .int .i64 e.value, .int .i64 e.time, .int .i64 e.who, .bool e.gone]] W fun x w' => x = .returned (.bool (oneP e)) ∧ W.alloc (.cells #[.int .i64 e.key, .int .i64 e.value, .int .i64 e.time, .int .i64 e.who, .bool e.gone] 125) = w' from fun W => yAx e W)
   obtain ⟨wx, hwx⟩ : ∃ wx, wx = wr.alloc (.cells #[.int .i64 e.key, .int .i64 e.value, .int .i64 e.time, .int .i64 e.who, .bool e.gone] 125) := ⟨_, rfl⟩
   have hbx : Below w.heap.size w wx := by rw [hwx]; exact hb.alloc hsz _
   have HX := hide hbx
   have hnew := Blk.new wr 125 #[.int .i64 e.key, .int .i64 e.value, .int .i64 e.time, .int .i64 e.who, .bool e.gone]
   rw [← hwx] at hnew
   have f0 : ∀ n : Ext wx, n.W.cell? ⟨wr.heap.size, 0, none⟩ = some (.int .i64 e.key) := fun n => n.cell (hnew.cell 0)
   have f1 : ∀ n : Ext wx, n.W.cell? ⟨wr.heap.size, 1, none⟩ = some (.int .i64 e.value) := fun n => n.cell (hnew.cell 1)
   have f2 : ∀ n : Ext wx, n.W.cell? ⟨wr.heap.size, 2, none⟩ = some (.int .i64 e.time) := fun n => n.cell (hnew.cell 2)
   have f3 : ∀ n : Ext wx, n.W.cell? ⟨wr.heap.size, 3, none⟩ = some (.int .i64 e.who) := fun n => n.cell (hnew.cell 3)
   have f4 : ∀ n : Ext wx, n.W.cell? ⟨wr.heap.size, 4, none⟩ = some (.bool e.gone) := fun n => n.cell (hnew.cell 4)
   have HWX := hide hwx
   clear hnew hbx hwx
   have hnb : ∀ n : Ext wx, Below w.heap.size w n.W := fun n => (zAa HX).trans (n.h.mono (zAa HX).size)
   have HNB := hide hnb
   clear hnb
   cases h1 : oneP e with
   | false =>
    have HG := hide (show mayP l = false by unfold mayP; rw [← zAa HI2, h1]; rfl)
    have HO2 := hide (show ∀ W, Calls Tryz.prog 128 #[.agg #[.int .i64 e.key, .int .i64 e.value, .int .i64 e.time, .int .i64 e.who, .bool e.gone]] W fun x w' => x = .returned (.bool false) ∧ Below W.heap.size W w' from
     fun W => (zAa HO W).mono fun x w' ⟨hx, hw'⟩ => ⟨by rw [hx, h1], by rw [← hw']; exact (Below.refl _ _).alloc (Nat.le_refl _) _⟩)
    go_wp2_with fail
    rw [← zAa HWX]
    refine zCr (by kernel_rfl) (by kernel_rfl) ?_
    repeat (go_big_quiet_step ((go_at_call 128; exact zDi (zAa HO2 _))))
    refine wpQuiet_nil ?_
    rintro _ ⟨nq, rfl⟩
    go_wp2_with fail
    go_ret
    exact ⟨zAo (zAa HG).symm, zAa HNB nq⟩
   | true =>
    have HO2 := hide (show ∀ W, Calls Tryz.prog 128 #[.agg #[.int .i64 e.key, .int .i64 e.value, .int .i64 e.time, .int .i64 e.who, .bool e.gone]] W fun x w' => x = .returned (.bool true) ∧ Below W.heap.size W w' from
     fun W => (zAa HO W).mono fun x w' ⟨hx, hw'⟩ => ⟨by rw [hx, h1], by rw [← hw']; exact (Below.refl _ _).alloc (Nat.le_refl _) _⟩)
    rw [h1] at HI2
    by_cases hk0 : 0 < k
    ·obtain ⟨j, rfl⟩ : ∃ j, k = j + 1 := ⟨k - 1, by omega⟩
     obtain ⟨b', o', d, hA, _, hd, hcd⟩ := zCf zBd (by omega) ((zAa HR).below (zAa HX)) (show j < n by omega) (zAa HL)
     have d0 : ∀ n : Ext wx, n.W.cell? ⟨b, o + j * 5, none⟩ = some (.int .i64 d.key) := by
      injection hA with hA
      injection hA with hA1 hA2
      subst hA1 hA2
      exact fun n => n.cell (hcd 0 _ rfl)
     have HD := hide (zJy l j d hd)
     clear hcd hA hd hk0
     have hj0 : (0 : Int) < ((j + 1 : Nat) : Int) := by omega
     have hj1 : (j : Int) < (n : Int) := by omega
     have hj2 : (j : Int) ≤ 9223372036854775806 := by omega
     by_cases hlt2 : d.key < e.key
     ·have HI3 := hide (show zEd (l.drop (j + 1 + 1)) (zJl l (j + 1 + 1)) = zEd l none by
       have h := zAa HI2
       rw [zAa HD] at h
       rw [zJy l (j + 1) e (zAa HE), ← h]
       simp [above, hlt2])
      clear HI2
      go_wp2_with fail
      rw [← zAa HWX]
      refine zCr (by kernel_rfl) (by kernel_rfl) ?_
      repeat (go_big_quiet_step ((go_at_call 128; exact zDi (zAa HO2 _))))
      refine wpQuiet_nil ?_
      rintro _ ⟨nq, rfl⟩
      go_wp2_with fail
      go_roundw
      case rel => exact ⟨j + 1 + 1, by omega, by go_num, zAa HNB nq, zAa HI3⟩
      case measure => simp [intOf]; omega
     ·have HG := hide (show mayP l = false by
       have h := zAa HI2
       rw [zAa HD] at h
       unfold mayP
       rw [← h]
       simp [above, hlt2])
      have hge : e.key ≤ d.key := by omega
      clear HI2 hlt2
      go_wp2_with fail
      rw [← zAa HWX]
      refine zCr (by kernel_rfl) (by kernel_rfl) ?_
      repeat (go_big_quiet_step ((go_at_call 128; exact zDi (zAa HO2 _))))
      refine wpQuiet_nil ?_
      rintro _ ⟨nq, rfl⟩
      go_wp2_with fail
      go_ret
      exact ⟨zAo (zAa HG).symm, zAa HNB nq⟩
    ·obtain rfl : k = 0 := by omega
     have HI3 := hide (show zEd (l.drop (0 + 1)) (zJl l (0 + 1)) = zEd l none by
      have h := zAa HI2
      rw [zJy l 0 e (zAa HE), ← h]
      simp [zJl, above])
     clear HI2 hk0
     have e0 : o + 0 * 5 = o := by omega
     rw [e0] at c0 c1 c2 c3 c4
     go_wp2_with fail
     rw [← zAa HWX]
     refine zCr (by kernel_rfl) (by kernel_rfl) ?_
     repeat (go_big_quiet_step ((go_at_call 128; exact zDi (zAa HO2 _))))
     refine wpQuiet_nil ?_
     rintro _ ⟨nq, rfl⟩
     go_wp2_with fail
     go_roundw
     case rel => exact ⟨0 + 1, by omega, by go_num, zAa HNB nq, zAa HI3⟩
     case measure => simp [intOf]; omega
  ·obtain rfl : k = n := by omega
   have HG := hide (show mayP l = decide (k ≤ 8) by
    have h := zAa HI
    rw [List.drop_of_length_le (by rw [zAa HL]; exact Nat.le_refl _), zEd] at h
    unfold mayP
    rw [← h, zAa HL, Bool.true_and])
   have HB := hide hb
   clear HI hb
   go_wp2_with fail
   go_ret
   exact ⟨zAo (by rw [zAa HG]; exact decide_eq_decide.2 (by omega)), zAa HB⟩
end
section
open Go.RowKit
theorem info_ent : (Tryz.prog.info? 125).map (fun i => (i.zero, i.size, i.bytes)) = some (some (.agg #[.int .i64 0, .int .i64 0, .int .i64 0, .int .i64 0, .bool false]), 5, 40) := by kernel_rfl
theorem zJm : ∃ i, Tryz.prog.info? 125 = some i ∧ i.zero = some (.agg #[.int .i64 0, .int .i64 0, .int .i64 0, .int .i64 0, .bool false]) ∧ i.size = 5 ∧ i.bytes = 40 := by
 have h := info_ent
 cases hi : Tryz.prog.info? 125 with
 | none => rw [hi] at h; simp at h
 | some i => rw [hi] at h; simp at h; exact ⟨i, rfl, h.1, h.2.1, h.2.2⟩
theorem zFo (l : List Ent) : ∀ u ∈ l.flatMap zAd, u.oneCell' = true := by
 intro u hu
 obtain ⟨e, _, he⟩ := List.mem_flatMap.1 hu
 simp only [zAd, List.mem_cons, List.not_mem_nil, or_false] at he
 rcases he with rfl | rfl | rfl | rfl | rfl <;> rfl
theorem zWk (A : Option Addr) (n c : Nat) (l : List Ent) (B : Nat) (w : World) (hl : l.length = n) (hm : n * 40 ≤ 140737488351232) (hr : Reads w B 5 A n (l.flatMap zAd)) (hB : B ≤ w.heap.size) :
    Calls Tryz.prog 134 #[.slice A n c] w fun e w' => ∃ v, e = .returned v ∧ w'.ownsRow w.heap.size 125 5 v n (l.flatMap zAd) ∧ Below w.heap.size w w' := by
 obtain ⟨i0, hi, hz0, hz1, hz2⟩ := zJm
 have q22 : ∀ (w : World) (a : Option Addr) (n c n' c' : Nat), (binOp .eql 103 (.slice a n c) (.slice none n' c')).run Tryz.prog w = .ok (.bool a.isNone) w := fun w a n c n' c' => Lib.run_eql_slice_nil w _ _ a n c n' c' Tryz.underlying103
 have HR := hide (hr.more hB)
 have HL := hide hl
 clear hr hl
 cases A with
 | none =>
  obtain rfl : n = 0 := by
   rcases Nat.eq_zero_or_pos n with h | h
   ·exact h
   ·obtain ⟨a, ha, _⟩ := (zAa HR).2 h; cases ha
  obtain rfl : l = [] := List.eq_nil_of_length_eq_zero (zAa HL)
  go_enter Tryz.func134, Tryz.ntmps134
  go_wp2_with fail
  go_ret
  exact ⟨_, rfl, World.ownsRow_nil _ _ _ _, Below.refl _ _⟩
 | some a =>
  have hlit := World.ownsRow_lit (base := w.heap.size) (size := 5) (e := 125) w #[] 0 (Nat.le_refl _) (by unfold maxLen; omega) rfl
  have HLIT := hide hlit
  have HR1 := hide ((zAa HR).alloc (Nat.le_refl _) (.cells #[] 125))
  have h1 : 0 + n ≤ maxLen := by unfold maxLen; omega
  have h2 : (0 + n) * 40 ≤ 140737488355328 := by omega
  have hone := zFo l
  have HONE := hide hone
  clear hlit hone hB hm
  go_enter Tryz.func134, Tryz.ntmps134
  go_wp2_with (first
   | (at_builtin; (refine zAr _ rfl (.tmp 5) (.tmp 6) _ rfl w.heap.size 125 i0 _ 5 40 Tryz.underlying103 hi hz0 hz1 hz2 rfl (by omega) _ 0 _ rfl (zAa HLIT) w.heap.size (some a) n c (l.flatMap zAd) rfl (zAa HR1) (zAa HONE) h1 h2 (by simp) ?_); intro v w1 hown hg hv))
  go_ret
  exact ⟨v, rfl, by simpa using hown, ((Below.refl _ w).alloc (Nat.le_refl _) _).grown hg (by simp) fun k hk => ((zAa HLIT).lt k hk).1⟩
end
section
open Go.RowKit
def zEg (L : List Ent) : Prop := L.Pairwise fun x y => x.key < y.key
def zJv (L : List Ent) : Prop := ∀ x ∈ L, 0 ≤ x.key ∧ x.key ≤ 1048576
def posE : List Ent → Int → Nat
 | [], _ => 0
 | x :: L, k => if x.key < k then posE L k + 1 else 0
theorem zZg (L : List Ent) (k : Int) : posE L k ≤ L.length := by
 induction L with
 | nil => simp [posE]
 | cons x L ih => unfold posE; split <;> simp <;> omega
theorem posE_lt (L : List Ent) (k : Int) (h : zEg L) : ∀ (p : Nat) (x : Ent), L[p]? = some x → (x.key < k ↔ p < posE L k) := by
 induction L with
 | nil => intro p x hx; simp at hx
 | cons y L ih =>
  intro p x hx
  have hs := List.pairwise_cons.1 h
  unfold posE
  cases p with
  | zero =>
   simp at hx
   subst hx
   split <;> simp [*]
  | succ p =>
   simp at hx
   have h1 := ih hs.2 p x hx
   have h2 := hs.1 x (List.mem_of_getElem? hx)
   split
   ·omega
   ·constructor
    ·intro h3; omega
    ·intro h3; omega
theorem zMu (e : Ent) (k : Int) (w : World) (h1 : 0 ≤ e.key ∧ e.key ≤ 1048576) (h2 : 0 ≤ k ∧ k ≤ 1048576) : Calls Tryz.prog 136 #[.agg #[.int .i64 e.key, .int .i64 e.value, .int .i64 e.time, .int .i64 e.who, .bool e.gone], .int .i64 k] w fun x w' => x = .returned (.int .i64 (e.key - k)) ∧ Below w.heap.size w w' := by
 go_enter Tryz.func136, Tryz.ntmps136
 go_wp2_with fail
 go_ret
 exact ⟨rfl, (Below.refl _ _).alloc (Nat.le_refl _) _⟩
theorem zPw (args : Array Value) (W : World) : (callFunc 136 args).run Tryz.prog W = .ok (.enter 136 args) W :=
 zDh Tryz.func136 (by kernel_rfl) rfl args W
def hadE (L : List Ent) (k : Int) : Bool := match L[posE L k]? with | some x => decide (x.key = k) | none => false
set_option maxHeartbeats 1000000 in
theorem zTq (A : Option Addr) (n c : Nat) (l : List Ent) (k : Int) (B : Nat) (w : World) (hl : l.length = n) (hm : n * 40 ≤ 140737488351232) (hr : Reads w B 5 A n (l.flatMap zAd)) (hB : B ≤ w.heap.size) (hs : zEg l) (hk : zJv l) (h2 : 0 ≤ k ∧ k ≤ 1048576) :
    Calls Tryz.prog 135 #[.slice A n c, .int .i64 k, .func (.func 136) #[] #[]] w fun e w' => e = .returned (.tuple #[.int .i64 (posE l k), .bool (hadE l k)]) ∧ Below w.heap.size w w' := by
 have HR := hide (hr.more hB)
 have HL := hide hl
 have HS := hide hs
 have HK := hide hk
 have hrun := zPw
 have HPL := hide (show posE l k ≤ n by rw [← hl]; exact zZg l k)
 clear hr hl hs hk
 go_enter Tryz.func135, Tryz.ntmps135
 go_wp2_with fail
 go_loopw [9, 10] (fun x y wr => ∃ i j : Nat, i ≤ posE l k ∧ posE l k ≤ j ∧ j ≤ n ∧ x = .int .i64 i ∧ y = .int .i64 j ∧ Below w.heap.size w wr) (fun x y _ => (intOf y - intOf x).toNat)
 case atStart => exact ⟨0, n, Nat.zero_le _, zAa HPL, Nat.le_refl _, rfl, rfl, Below.refl _ _⟩
 case round =>
  obtain ⟨i, j, hi, hj, hjn, rfl, rfl, hb⟩ := hrel
  by_cases hlt : i < j
  ·obtain ⟨h, hh⟩ : ∃ h, h = (i + j) / 2 := ⟨_, rfl⟩
   have hhn : h < n := by omega
   have hmid : IntKind.u64.wrap ((i : Int) + (j : Int)) = (i : Int) + (j : Int) := by simp [IntKind.wrap, IntKind.bits, IntKind.signed]; omega
   have E2 := hide (show ((h : Nat) : Int) = ((i : Int) + (j : Int)) / 2 by omega)
   obtain ⟨b, o, e, rfl, hbl, he, hc⟩ := zCf zBd (by omega) ((zAa HR).below hb) hhn (zAa HL)
   have c0 : wr.cell? ⟨b, o + h * 5, none⟩ = some (.int .i64 e.key) := hc 0 _ rfl
   have c1 : wr.cell? ⟨b, o + h * 5 + 1, none⟩ = some (.int .i64 e.value) := hc 1 _ rfl
   have c2 : wr.cell? ⟨b, o + h * 5 + 2, none⟩ = some (.int .i64 e.time) := hc 2 _ rfl
   have c3 : wr.cell? ⟨b, o + h * 5 + 3, none⟩ = some (.int .i64 e.who) := hc 3 _ rfl
   have c4 : wr.cell? ⟨b, o + h * 5 + 4, none⟩ = some (.bool e.gone) := hc 4 _ rfl
   have hek := zAa HK e (List.mem_of_getElem? he)
   have hpos := posE_lt l k (zAa HS) h e he
   have HCL := hide (fun W => zMu e k W hek h2)
   have hhn' : (h : Int) < (n : Int) := by omega
   have HB := hide hb
   have HH := hide hh
   clear hc he hbl hb hh
   go_upto_region 5 with fail
   rw [← zAa E2]
   by_cases hc : e.key < k
   ·have hp := hpos.1 hc
    have hc' : e.key - k < 0 := by omega
    clear hpos
    go_wp2_with fail
    refine (zAa HCL _).mono ?_
    rintro _ w2 ⟨rfl, hb2⟩
    have HB2 := hide ((zAa HB).trans (hb2.mono (zAa HB).size))
    clear hb2
    go_wp2_with fail
    go_roundw
    case rel => exact ⟨h + 1, j, by omega, hj, hjn, by go_num, rfl, zAa HB2⟩
    case measure => have := zAa HH; simp [intOf]; omega
   ·have hp : ¬ h < posE l k := fun e => hc (hpos.2 e)
    have hc' : ¬ e.key - k < 0 := by omega
    clear hpos
    go_wp2_with fail
    refine (zAa HCL _).mono ?_
    rintro _ w2 ⟨rfl, hb2⟩
    have HB2 := hide ((zAa HB).trans (hb2.mono (zAa HB).size))
    clear hb2
    go_wp2_with fail
    go_roundw
    case rel => exact ⟨i, h, hi, by omega, by omega, rfl, rfl, zAa HB2⟩
    case measure => have := zAa HH; simp [intOf]; omega
  ·obtain rfl : i = j := by omega
   obtain hq : posE l k = i := by omega
   have HQ := hide hq
   rw [hq]
   clear hi hj hq
   by_cases hin : i < n
   ·obtain ⟨b, o, e, rfl, hbl, he, hc⟩ := zCf zBd (by omega) ((zAa HR).below hb) hin (zAa HL)
    have c0 : wr.cell? ⟨b, o + i * 5, none⟩ = some (.int .i64 e.key) := hc 0 _ rfl
    have c1 : wr.cell? ⟨b, o + i * 5 + 1, none⟩ = some (.int .i64 e.value) := hc 1 _ rfl
    have c2 : wr.cell? ⟨b, o + i * 5 + 2, none⟩ = some (.int .i64 e.time) := hc 2 _ rfl
    have c3 : wr.cell? ⟨b, o + i * 5 + 3, none⟩ = some (.int .i64 e.who) := hc 3 _ rfl
    have c4 : wr.cell? ⟨b, o + i * 5 + 4, none⟩ = some (.bool e.gone) := hc 4 _ rfl
    have hek := zAa HK e (List.mem_of_getElem? he)
    have HCL := hide (fun W => zMu e k W hek h2)
    have HF := hide (show hadE l k = (e.key - k == 0) by unfold hadE; rw [zAa HQ, he]; dsimp only; rw [Bool.eq_iff_iff]; simp; omega)
    have hin' : (i : Int) < (n : Int) := by omega
    have HB := hide hb
    clear hc he hbl hb
    go_wp2_with fail
    refine (zAa HCL _).mono ?_
    rintro _ w2 ⟨rfl, hb2⟩
    have HB2 := hide ((zAa HB).trans (hb2.mono (zAa HB).size))
    clear hb2
    go_wp2_with fail
    go_ret2
    rw [zAa HF, zAa HQ]
    exact ⟨rfl, zAa HB2⟩
   ·have HF := hide (show hadE l k = false by unfold hadE; rw [zAa HQ, List.getElem?_eq_none (by rw [zAa HL]; omega)])
    have hin' : decide (i < n) = false := decide_eq_false hin
    have HB := hide hb
    clear hb
    go_wp2_with fail
    go_ret2
    rw [zAa HF, zAa HQ]
    exact ⟨rfl, zAa HB⟩
end
section
open Go.RowKit
def insE : List Ent → Ent → List Ent
 | [], e => [e]
 | x :: L, e => if x.key < e.key then x :: insE L e else if e.key < x.key then e :: x :: L else (if zPr e x then e else x) :: L
theorem insE_len (L : List Ent) (e : Ent) : (insE L e).length ≤ L.length + 1 := by
 induction L with
 | nil => simp [insE]
 | cons x L ih => unfold insE; split; · simp; omega
                  split <;> simp
theorem zPj (L : List Ent) (e : Ent) : ∀ z ∈ insE L e, z ∈ L ∨ z = e := by
 induction L with
 | nil => intro z hz; simp [insE] at hz; exact .inr hz
 | cons x L ih =>
  intro z hz
  unfold insE at hz
  split at hz
  ·rcases List.mem_cons.1 hz with rfl | hz
   ·exact .inl (by simp)
   ·rcases ih z hz with h | h
    ·exact .inl (by simp [h])
    ·exact .inr h
  ·split at hz
   ·rcases List.mem_cons.1 hz with rfl | hz
    ·exact .inr rfl
    ·exact .inl hz
   ·rcases List.mem_cons.1 hz with h | hz
    ·split at h
     ·exact .inr h
     ·exact .inl (by simp [h])
    ·exact .inl (by simp [hz])
theorem zXp (L : List Ent) (e : Ent) (h : zEg L) : zEg (insE L e) := by
 induction L with
 | nil => exact List.pairwise_singleton _ _
 | cons x L ih =>
  have hs := List.pairwise_cons.1 h
  unfold insE
  split
  ·rename_i hlt
   refine List.pairwise_cons.2 ⟨fun z hz => ?_, ih hs.2⟩
   rcases zPj L e z hz with h1 | h1
   ·exact hs.1 z h1
   ·rw [h1]; exact hlt
  ·split
   ·rename_i h1 h2
    refine List.pairwise_cons.2 ⟨fun z hz => ?_, h⟩
    rcases List.mem_cons.1 hz with rfl | hz
    ·exact h2
    ·have := hs.1 z hz; omega
   ·rename_i h1 h2
    refine List.pairwise_cons.2 ⟨fun z hz => ?_, hs.2⟩
    have := hs.1 z hz
    split <;> omega
theorem yCp (L : List Ent) (e : Ent) (h : zJv L) (he : 0 ≤ e.key ∧ e.key ≤ 1048576) : zJv (insE L e) := fun z hz => by
 rcases zPj L e z hz with h1 | h1
 ·exact h z h1
 ·rw [h1]; exact he
theorem insE_had (L : List Ent) (e : Ent) (h : zEg L) : hadE L e.key = true → ∃ x, L[posE L e.key]? = some x ∧ x.key = e.key ∧ insE L e = if zPr e x then L.set (posE L e.key) e else L := by
 induction L with
 | nil => intro h; simp [hadE, posE] at h
 | cons x L ih =>
  have hs := List.pairwise_cons.1 h
  intro hh
  unfold hadE posE at hh
  unfold posE insE
  by_cases h1 : x.key < e.key
  ·rw [if_pos h1] at hh ⊢
   rw [if_pos h1]
   rw [List.getElem?_cons_succ] at hh
   obtain ⟨y, hy, hk, he⟩ := ih hs.2 hh
   refine ⟨y, by rw [List.getElem?_cons_succ]; exact hy, hk, ?_⟩
   rw [he]
   split <;> simp
  ·rw [if_neg h1] at hh ⊢
   rw [if_neg h1]
   simp at hh
   rw [if_neg (by omega)]
   refine ⟨x, by simp, hh, ?_⟩
   split <;> simp
theorem insE_new (L : List Ent) (e : Ent) (h : zEg L) : hadE L e.key = false → insE L e = L.take (posE L e.key) ++ e :: L.drop (posE L e.key) := by
 induction L with
 | nil => intro _; simp [insE]
 | cons x L ih =>
  have hs := List.pairwise_cons.1 h
  intro hh
  unfold hadE posE at hh
  unfold posE insE
  by_cases h1 : x.key < e.key
  ·rw [if_pos h1] at hh ⊢
   rw [if_pos h1]
   rw [List.getElem?_cons_succ] at hh
   rw [ih hs.2 hh]
   simp
  ·rw [if_neg h1] at hh ⊢
   rw [if_neg h1]
   simp at hh
   rw [if_pos (by omega)]
   simp
theorem zMg {e : Ent} (h : oneP e = true) : (0 ≤ e.key ∧ e.key ≤ 1048576) ∧ (0 ≤ e.value ∧ e.value ≤ 1048576) ∧ (0 ≤ e.time ∧ e.time ≤ 1048576) ∧ (0 ≤ e.who ∧ e.who ≤ 7) := by
 unfold oneP inP at h
 simp at h
 omega
theorem zMt : ∀ (l : List Ent) (p : Option Int), zEd l p = true → (∀ x ∈ l, oneP x = true) ∧ (∀ q, p = some q → ∀ x ∈ l, q < x.key) ∧ zEg l
 | [], p, _ => ⟨by simp, by simp, List.Pairwise.nil⟩
 | e :: l, p, h => by
  unfold zEd at h
  simp only [Bool.and_eq_true] at h
  obtain ⟨h1, h2, h3⟩ := zMt l (some e.key) h.2
  refine ⟨fun x hx => ?_, fun q hq x hx => ?_, List.pairwise_cons.2 ⟨fun x hx => h2 _ rfl x hx, h3⟩⟩
  ·rcases List.mem_cons.1 hx with rfl | hx
   ·exact h.1.1
   ·exact h1 x hx
  ·subst hq
   have h4 := h.1.2
   simp [above] at h4
   rcases List.mem_cons.1 hx with rfl | hx
   ·exact h4
   ·have := h2 _ rfl x hx; omega
theorem zFf {l : List Ent} (h : mayP l = true) : zEg l ∧ zJv l ∧ l.length ≤ 8 ∧ ∀ x ∈ l, oneP x = true := by
 unfold mayP at h
 simp only [Bool.and_eq_true, decide_eq_true_eq] at h
 obtain ⟨h1, _, h3⟩ := zMt l none h.1
 exact ⟨h3, fun x hx => (zMg (h1 x hx)).1, h.2, h1⟩
def zCz (a b : List Ent) : List Ent × Int := if mayP a && mayP b then (if 8 < (b.foldl insE a).length then ([], 8) else (b.foldl insE a, 0)) else ([], 4)
theorem zPt (b : List Ent) (hb : zJv b) : ∀ a, zEg a → zJv a → zEg (b.foldl insE a) ∧ zJv (b.foldl insE a) ∧ (b.foldl insE a).length ≤ a.length + b.length := by
 induction b with
 | nil => intro a h1 h2; exact ⟨h1, h2, by simp⟩
 | cons y b ih =>
  intro a h1 h2
  obtain ⟨h3, h4, h5⟩ := ih (fun x hx => hb x (by simp [hx])) (insE a y) (zXp a y h1) (yCp a y h2 (hb y (by simp)))
  have := insE_len a y
  exact ⟨h3, h4, by rw [List.foldl_cons]; simp; omega⟩
end
section
open Go.RowKit
structure EnR where
 es : List Ent
 A : Option Addr
 c : Nat
def EnR.val (r : EnR) : Value := .slice r.A r.es.length r.c
def EnR.nil : EnR := ⟨[], none, 0⟩
structure TabR where
 rs : List EnR
 A : Option Addr
 c : Nat
def TabR.val (t : TabR) : Value := .slice t.A t.rs.length t.c
def TabRd (w : World) (B : Nat) (t : TabR) : Prop := Reads w B 1 t.A t.rs.length (t.rs.map EnR.val) ∧ ∀ r ∈ t.rs, Reads w B 5 r.A r.es.length (r.es.flatMap zAd)
theorem TabRd.below {w w' : World} {B : Nat} {t : TabR} (h : TabRd w B t) (hb : Below B w w') : TabRd w' B t := ⟨h.1.below hb, fun r hr => (h.2 r hr).below hb⟩
theorem TabRd.more {w : World} {B B' : Nat} {t : TabR} (h : TabRd w B t) (hb : B ≤ B') : TabRd w B' t := ⟨h.1.more hb, fun r hr => (h.2 r hr).more hb⟩
theorem zMq {α : Type} (f : α → Value) {w : World} {B n : Nat} {A : Option Addr} {l : List α} (h : Reads w B 1 A n (l.map f)) {k : Nat} (hk : k < n) : ∃ b o x, A = some ⟨b, o, none⟩ ∧ b < B ∧ l[k]? = some x ∧ w.cell? ⟨b, o + k, none⟩ = some (f x) := by
 have hl : l.length = n := by have := h.1; rw [List.length_map] at this; omega
 rw [show l.map f = l.flatMap fun x => [f x] by rw [List.map_eq_flatMap]] at h
 obtain ⟨b, o, x, e, hb, hx, hc⟩ := zCf (cells := fun x => [f x]) (size := 1) (fun _ => rfl) Nat.one_pos h hk hl
 have := hc 0 _ rfl
 simp only [Nat.mul_one, Nat.add_zero] at this
 exact ⟨b, o, x, e, hb, hx, this⟩
end
section
open Go.RowKit Go.ChangeShapes Go.WideShapes Go.Deep
structure IRw where
 A : Option Addr
 n : Nat
 c : Nat
 zs : List Int
def IRw.ok (r : IRw) (w : World) (B : Nat) : Prop := r.zs.length = r.n ∧ r.n ≤ r.c ∧ r.c ≤ maxLen ∧ Reads w B 1 r.A r.n (r.zs.map (.int .i64))
section
variable {w w' : World} {B B' n : Nat} {A : Option Addr} {r : IRw}
theorem IRw.ok.keep (h : r.ok w B) (hk : ∀ p : Addr, p.block < B → w'.cell? p = w.cell? p) : r.ok w' B := ⟨h.1, h.2.1, h.2.2.1, h.2.2.2.keep hk⟩
theorem IRw.ok.below (h : r.ok w B) (hb : Below B w w') : r.ok w' B := h.keep fun _ hp => hb.cell hp
theorem IRw.ok.more (h : r.ok w B) (hB : B ≤ B') : r.ok w B' := ⟨h.1, h.2.1, h.2.2.1, h.2.2.2.more hB⟩
end
end
section
open Go.RowKit
def St3 (w : World) (B : Nat) (v : Value) (P : List (List (List Ent))) : Prop :=
 ∃ A c, ∃ ts : List TabR, v = .slice A ts.length c ∧ Reads w B 1 A ts.length (ts.map TabR.val) ∧ (∀ t ∈ ts, TabRd w B t) ∧ ts.map (fun t => t.rs.map EnR.es) = P
end
end Go.Proofs.YtbolcebmbpepdaaGreatDoor
