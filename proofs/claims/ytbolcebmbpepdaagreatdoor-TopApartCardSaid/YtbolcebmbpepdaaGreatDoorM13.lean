/- Contracts and plain facts, set together by program out of smaller texts. Conditions: none beyond what each theorem states. -/
import Derived.OpenShut
import Derived.Carry
import Derived.Test.YtbolcebmbpepdaaGreatDoorM12
import Derived.Test.YtbolcebmbpepdaaGreatDoorM04
import Derived.Test.YtbolcebmbpepdaaGreatDoorM02
import Derived.Test.YtbolcebmbpepdaaGreatDoorM01
namespace Go.Proofs.YtbolcebmbpepdaaGreatDoor
set_option linter.unusedVariables false
section
open Go.RowKit Go.ChangeShapes Go.WideShapes Go.Deep
structure Cfg where
 br : Int
 la : IRw
 tk : Int
 mi : IRw
 cap : Int
def Cfg.val (c : Cfg) : Value := .agg #[.int .i64 c.br, .slice c.la.A c.la.n c.la.c, .int .i64 c.tk, .slice c.mi.A c.mi.n c.mi.c, .int .i64 c.cap]
def Cfg.ok (c : Cfg) (w : World) (B : Nat) : Prop := c.la.ok w B ∧ c.mi.ok w B ∧ ∀ z ∈ c.la.zs, (Lit.int .i64 z).wf = true
theorem Cfg.ok.below {c : Cfg} {w w' : World} {B : Nat} (h : c.ok w B) (hb : Below B w w') : c.ok w' B := ⟨h.1.below hb, h.2.1.below hb, h.2.2⟩
theorem Cfg.ok.more {c : Cfg} {w : World} {B B' : Nat} (h : c.ok w B) (hB : B ≤ B') : c.ok w B' := ⟨h.1.more hB, h.2.1.more hB, h.2.2⟩
def badN (z : Int) : Bool := decide (z < 0) || decide (1048576 < z)
def zFb (b s : Int) : Bool := decide (s < 0) || decide (2 ^ b.toNat ≤ s)
def inB (n lo hi : Int) : Bool := decide (lo ≤ n) && decide (n ≤ hi)
def zAh (c : Cfg) : Bool := inB c.br 1 8 && decide (c.la.zs.length ≤ 4) && inB c.tk 1 8 && inB c.mi.zs.length 1 3 && inB c.cap 0 1048576 && !(c.la.zs.any (zFb c.br)) && !(c.mi.zs.any badN)
theorem zFl (n lo hi : Int) (w : World) : Calls Tryz.prog 56 #[.int .i64 n, .int .i64 lo, .int .i64 hi] w fun e w' => e = .returned (.bool (inB n lo hi)) ∧ w = w' := by
 by_cases h0 : lo ≤ n
 ·have HF := hide (show inB n lo hi = decide (n ≤ hi) by simp [inB, h0])
  go_enter Tryz.func56, Tryz.ntmps56
  go_wp2_with fail
  go_ret
  exact ⟨zAo (zAa HF).symm, rfl⟩
 ·have HF := hide (show inB n lo hi = false by simp [inB, h0])
  go_enter Tryz.func56, Tryz.ntmps56
  go_wp2_with fail
  go_ret
  exact ⟨zAo (zAa HF).symm, rfl⟩
theorem zXg (z : Int) (w : World) : Calls Tryz.prog 59 #[.int .i64 z] w fun x w' => x = .returned (.bool (badN z)) ∧ w = w' := by
 have H := hide (fun W => zFl z 0 1048576 W)
 have HF := hide (show (!inB z 0 1048576) = badN z by unfold inB badN; rw [Bool.eq_iff_iff]; simp <;> omega)
 generalize inB z 0 1048576 = x at H HF
 go_enter Tryz.func59, Tryz.ntmps59
 go_wp2_with fail
 refine (zAa H _).mono ?_
 rintro _ _ ⟨rfl, rfl⟩
 go_wp2_with fail
 go_ret
 exact ⟨zAo (zAa HF), rfl⟩
end
section
open Go.RowKit
theorem yAs (b : Nat) (hb : b ≤ 8) (z : Int) (h : mayB z = false) : zFb b z = true := by
 have hp : (2:Nat) ^ b ≤ 2 ^ 8 := Nat.pow_le_pow_right (by omega) hb
 have hp' : (2:Int) ^ b ≤ 256 := by
  have : ((2 ^ b : Nat) : Int) ≤ 256 := by omega
  simpa using this
 unfold mayB at h
 unfold zFb
 simp only [Int.toNat_natCast]
 simp at h ⊢
 omega
theorem zYm (z : Int) (b : Nat) (hb : b ≤ 8) (hz : z ≤ 9223372036854775807) (p : Nat) (w : World) (hp : w.cell? ⟨p, 0, none⟩ = some (.int .i64 b)) :
    Calls Tryz.prog 58 #[.int .i64 z, .pointer (some ⟨p, 0, none⟩)] w fun x w' => x = .returned (.bool (zFb b z)) ∧ w = w' := by
 have H := hide (zPo z hz w)
 cases hm : mayB z with
 | false =>
  have HF := hide (yAs b hb z hm)
  rw [hm] at H
  clear hm
  go_enter Tryz.func58, Tryz.ntmps58
  go_wp2_with fail
  refine (zAa H).mono ?_
  rintro _ _ ⟨rfl, rfl⟩
  go_wp2_with fail
  go_ret
  exact ⟨zAo (zAa HF).symm, rfl⟩
 | true =>
  rw [hm] at H
  have h2 : 0 ≤ z ∧ z ≤ 255 := by simpa [mayB] using hm
  obtain ⟨s, rfl⟩ := Int.eq_ofNat_of_zero_le h2.1
  have hs : s ≤ 255 := by omega
  have HF := hide (show zFb b s = decide ((0 : Int) < (s : Int) / 2 ^ b) by
   rw [zYv]
   unfold zFb
   simp only [Int.toNat_natCast]
   have e : ((2 : Int) ^ b ≤ (s : Int)) ↔ 2 ^ b ≤ s := by
    have : ((2 ^ b : Nat) : Int) = (2 : Int) ^ b := by simp
    rw [← this]; omega
   rw [Bool.eq_iff_iff]; simp [e]; omega)
  clear hm h2 hz
  go_enter Tryz.func58, Tryz.ntmps58
  go_wp2_with fail
  refine (zAa H).mono ?_
  rintro _ _ ⟨rfl, rfl⟩
  go_wp2_with fail
  go_ret
  exact ⟨zAo (zAa HF).symm, rfl⟩
set_option maxHeartbeats 1600000 in
theorem zEe (c : Cfg) (B : Nat) (w : World) (hc : c.ok w B) (hB : B ≤ w.heap.size) :
    Calls Tryz.prog 38 #[c.val] w fun e w' => e = .returned (.bool (zAh c)) ∧ Below w.heap.size w w' := by
 obtain ⟨br, ⟨lA, ln, lc, ls⟩, tk, ⟨mA, mn, mc, ms⟩, cap⟩ := c
 obtain ⟨⟨l1, l2, l3, l4⟩, ⟨m1, m2, m3, m4⟩, lw⟩ := hc
 dsimp only at l1 l2 l3 l4 m1 m2 m3 m4 lw
 unfold Cfg.val
 dsimp only
 obtain ⟨wx, hwx⟩ : ∃ wx, wx = w.alloc (.cells #[.int .i64 br, .slice lA ln lc, .int .i64 tk, .slice mA mn mc, .int .i64 cap] 24) := ⟨_, rfl⟩
 have hbx : Below w.heap.size w wx := by rw [hwx]; exact (Below.refl _ _).alloc (Nat.le_refl _) _
 have hnew := Blk.new w 24 #[.int .i64 br, .slice lA ln lc, .int .i64 tk, .slice mA mn mc, .int .i64 cap]
 rw [← hwx] at hnew
 have c0 : wx.cell? ⟨w.heap.size, 0, none⟩ = some (.int .i64 br) := hnew.cell 0
 have c1 : wx.cell? ⟨w.heap.size, 1, none⟩ = some (.slice lA ln lc) := hnew.cell 1
 have c2 : wx.cell? ⟨w.heap.size, 2, none⟩ = some (.int .i64 tk) := hnew.cell 2
 have c3 : wx.cell? ⟨w.heap.size, 3, none⟩ = some (.slice mA mn mc) := hnew.cell 3
 have c4 : wx.cell? ⟨w.heap.size, 4, none⟩ = some (.int .i64 cap) := hnew.cell 4
 have HP := hide (show zAh ⟨br, ⟨lA, ln, lc, ls⟩, tk, ⟨mA, mn, mc, ms⟩, cap⟩ = (inB br 1 8 && decide (ln ≤ 4) && inB tk 1 8 && inB mn 1 3 && inB cap 0 1048576 && !(ls.any (zFb br)) && !(ms.any badN)) by
  unfold zAh; dsimp only; rw [l1, m1])
 have H1 := hide (zFl br 1 8 wx)
 have H3 := hide (zFl tk 1 8 wx)
 have H4 := hide (zFl mn 1 3 wx)
 have H5 := hide (zFl cap 0 1048576 wx)
 have H6 := hide (show inB br 1 8 = true → Calls Tryz.prog 57 #[.slice lA ln lc, .func (.func 58) #[] #[.pointer (some ⟨w.heap.size, 0, none⟩)]] wx (fun e w' => e = .returned (.bool (ls.any (zFb br))) ∧ wx = w') from fun hb => by
  have hb2 : 1 ≤ br ∧ br ≤ 8 := by simpa [inB] using hb
  obtain ⟨b, rfl⟩ := Int.eq_ofNat_of_zero_le (show 0 ≤ br by omega)
  exact zHk 58 #[.pointer (some ⟨w.heap.size, 0, none⟩)] (zFb b) lA ln lc ls B (fun W => wx = W) wx l1 (by omega) (fun W hW => hW ▸ (l4.below (hbx.mono hB))) rfl
   (zDh Tryz.func58 (by kernel_rfl) rfl)
   (fun z W hz hW => by subst hW; exact zYm z b (by omega) (zTp (lw z hz)).2 _ wx c0))
 have H7 := hide (zHk 59 #[] badN mA mn mc ms B (fun W => wx = W) wx m1 (by omega) (fun W hW => hW ▸ (m4.below (hbx.mono hB))) rfl
  (zDh Tryz.func59 (by kernel_rfl) rfl) (fun z W _ hW => (zXg z W).mono fun x w' ⟨hx, hw'⟩ => ⟨hx, hW.trans hw'⟩))
 have hln : ln ≤ 9223372036854775807 := by unfold maxLen at l3; omega
 have hmn : mn ≤ 9223372036854775807 := by unfold maxLen at m3; omega
 have HBX := hide hbx
 have HWX := hide hwx
 clear hbx hwx hnew l1 l2 l3 l4 m1 m2 m3 m4 lw
 cases h1 : inB br 1 8 with
 | false =>
  rw [h1] at H1
  have HG := hide (show zAh ⟨br, ⟨lA, ln, lc, ls⟩, tk, ⟨mA, mn, mc, ms⟩, cap⟩ = false by rw [zAa HP, h1]; simp)
  clear  h1 HP
  go_enter Tryz.func38, Tryz.ntmps38
  go_wp2_with fail
  rw [← zAa HWX]
  refine (zAa H1).mono ?_
  rintro _ _ ⟨rfl, rfl⟩
  go_wp2_with fail
  go_ret
  exact ⟨zAo (zAa HG).symm, zAa HBX⟩
 | true =>
  rw [h1] at H1
  by_cases h2 : ln ≤ 4
  rotate_left
  ·have HG := hide (show zAh ⟨br, ⟨lA, ln, lc, ls⟩, tk, ⟨mA, mn, mc, ms⟩, cap⟩ = false by rw [zAa HP]; simp [h2])
   have h2' : 4 < ln := by omega
   clear h1 h2 HP
   go_enter Tryz.func38, Tryz.ntmps38
   go_wp2_with fail
   rw [← zAa HWX]
   refine (zAa H1).mono ?_
   rintro _ _ ⟨rfl, rfl⟩
   go_wp2_with fail
   go_ret
   exact ⟨zAo (zAa HG).symm, zAa HBX⟩
  cases h3 : inB tk 1 8 with
  | false =>
   rw [h3] at H3
   have HG := hide (show zAh ⟨br, ⟨lA, ln, lc, ls⟩, tk, ⟨mA, mn, mc, ms⟩, cap⟩ = false by rw [zAa HP, h3]; simp)
   clear h1 h3 HP
   go_enter Tryz.func38, Tryz.ntmps38
   go_wp2_with fail
   rw [← zAa HWX]
   refine (zAa H1).mono ?_
   rintro _ _ ⟨rfl, rfl⟩
   go_wp2_with fail
   refine (zAa H3).mono ?_
   rintro _ _ ⟨rfl, rfl⟩
   go_wp2_with fail
   go_ret
   exact ⟨zAo (zAa HG).symm, zAa HBX⟩
  | true =>
   rw [h3] at H3
   cases h4 : inB mn 1 3 with
   | false =>
    rw [h4] at H4
    have HG := hide (show zAh ⟨br, ⟨lA, ln, lc, ls⟩, tk, ⟨mA, mn, mc, ms⟩, cap⟩ = false by rw [zAa HP, h4]; simp)
    clear h1 h3 h4 HP
    go_enter Tryz.func38, Tryz.ntmps38
    go_wp2_with fail
    rw [← zAa HWX]
    refine (zAa H1).mono ?_
    rintro _ _ ⟨rfl, rfl⟩
    go_wp2_with fail
    refine (zAa H3).mono ?_
    rintro _ _ ⟨rfl, rfl⟩
    go_wp2_with fail
    refine (zAa H4).mono ?_
    rintro _ _ ⟨rfl, rfl⟩
    go_wp2_with fail
    go_ret
    exact ⟨zAo (zAa HG).symm, zAa HBX⟩
   | true =>
    rw [h4] at H4
    cases h5 : inB cap 0 1048576 with
    | false =>
     rw [h5] at H5
     have HG := hide (show zAh ⟨br, ⟨lA, ln, lc, ls⟩, tk, ⟨mA, mn, mc, ms⟩, cap⟩ = false by rw [zAa HP, h5]; simp)
     clear h1 h3 h4 h5 HP
     go_enter Tryz.func38, Tryz.ntmps38
     go_wp2_with fail
     rw [← zAa HWX]
     refine (zAa H1).mono ?_
     rintro _ _ ⟨rfl, rfl⟩
     go_wp2_with fail
     refine (zAa H3).mono ?_
     rintro _ _ ⟨rfl, rfl⟩
     go_wp2_with fail
     refine (zAa H4).mono ?_
     rintro _ _ ⟨rfl, rfl⟩
     go_wp2_with fail
     refine (zAa H5).mono ?_
     rintro _ _ ⟨rfl, rfl⟩
     go_wp2_with fail
     go_ret
     exact ⟨zAo (zAa HG).symm, zAa HBX⟩
    | true =>
     rw [h5] at H5
     have H6' := hide (zAa H6 h1)
     cases h6 : ls.any (zFb br) with
     | true =>
      rw [h6] at H6'
      have HG := hide (show zAh ⟨br, ⟨lA, ln, lc, ls⟩, tk, ⟨mA, mn, mc, ms⟩, cap⟩ = false by rw [zAa HP, h6]; simp)
      clear h1 h3 h4 h5 h6 HP
      go_enter Tryz.func38, Tryz.ntmps38
      go_wp2_with fail
      rw [← zAa HWX]
      refine (zAa H1).mono ?_
      rintro _ _ ⟨rfl, rfl⟩
      go_wp2_with fail
      refine (zAa H3).mono ?_
      rintro _ _ ⟨rfl, rfl⟩
      go_wp2_with fail
      refine (zAa H4).mono ?_
      rintro _ _ ⟨rfl, rfl⟩
      go_wp2_with fail
      refine (zAa H5).mono ?_
      rintro _ _ ⟨rfl, rfl⟩
      go_wp2_with fail
      refine (zAa H6').mono ?_
      rintro _ _ ⟨rfl, rfl⟩
      go_wp2_with fail
      go_ret
      exact ⟨zAo (zAa HG).symm, zAa HBX⟩
     | false =>
      rw [h6] at H6'
      have HG := hide (show zAh ⟨br, ⟨lA, ln, lc, ls⟩, tk, ⟨mA, mn, mc, ms⟩, cap⟩ = !(ms.any badN) by rw [zAa HP, h1, h3, h4, h5, h6]; simp [h2])
      generalize ms.any badN = x at H7 HG
      clear h1 h3 h4 h5 h6 HP
      go_enter Tryz.func38, Tryz.ntmps38
      go_wp2_with fail
      rw [← zAa HWX]
      refine (zAa H1).mono ?_
      rintro _ _ ⟨rfl, rfl⟩
      go_wp2_with fail
      refine (zAa H3).mono ?_
      rintro _ _ ⟨rfl, rfl⟩
      go_wp2_with fail
      refine (zAa H4).mono ?_
      rintro _ _ ⟨rfl, rfl⟩
      go_wp2_with fail
      refine (zAa H5).mono ?_
      rintro _ _ ⟨rfl, rfl⟩
      go_wp2_with fail
      refine (zAa H6').mono ?_
      rintro _ _ ⟨rfl, rfl⟩
      go_wp2_with fail
      refine (zAa H7).mono ?_
      rintro _ _ ⟨rfl, rfl⟩
      go_wp2_with fail
      go_ret
      exact ⟨zAo (zAa HG).symm, zAa HBX⟩
end
section
open Go.RowKit
def zLw (e : Ent) : Nat := if e.gone then 1 else 0
def zDw (e : Ent) : Nat := (((2 + zLw e) * 256 + e.value.toNat) * 2097152 + e.time.toNat) * 8 + e.who.toNat
def keyE (l : List Ent) (k : Int) : Option Ent := l.find? fun e => decide (e.key = k)
def zDu (l : List Ent) (k : Int) : Nat := match keyE l k with | some e => zDw e | none => 0
structure zIq (e : Ent) : Prop where
 value : 0 ≤ e.value ∧ e.value ≤ 255
 time : 0 ≤ e.time ∧ e.time ≤ 1048576
 who : 0 ≤ e.who ∧ e.who ≤ 7
theorem slotN_lt {e : Ent} (h : zIq e) : zDw e < 2 ^ 34 := by
 obtain ⟨h1, h2, h3⟩ := h
 have hg : zLw e ≤ 1 := by unfold zLw; split <;> omega
 unfold zDw
 omega
theorem zUx {l : List Ent} (h : ∀ e ∈ l, zIq e) (k : Int) : zDu l k < 2 ^ 34 := by
 unfold zDu
 cases hk : keyE l k with
 | none => simp
 | some e => exact slotN_lt (h e (List.mem_of_find?_eq_some hk))
def zAn (a b : Nat) : List Int → Nat → List Nat
 | [], _ => []
 | z :: ls, i => if z.toNat.testBit a && z.toNat.testBit b then i :: zAn a b ls (i + 1) else zAn a b ls (i + 1)
theorem zJg (a b : Nat) : ∀ (ls : List Int) (i : Nat), (zAn a b ls i).length ≤ ls.length
 | [], _ => Nat.le_refl _
 | z :: ls, i => by
  have := zJg a b ls (i + 1)
  unfold zAn
  split <;> simp <;> omega
theorem zGk (a b : Nat) : ∀ (ls : List Int) (i : Nat), ∀ x ∈ zAn a b ls i, i ≤ x ∧ x < i + ls.length
 | [], _ => fun x hx => by simp [zAn] at hx
 | z :: ls, i => fun x hx => by
  unfold zAn at hx
  have ih := zGk a b ls (i + 1)
  split at hx
  ·rcases List.mem_cons.1 hx with rfl | hx
   ·simp
   ·have := ih x hx; simp; omega
  ·have := ih x hx; simp; omega
def slotsOf (l : List Ent) : List (Int × Int) := (List.range 8).map fun k : Nat => (34, (zDu l k : Int))
def zCv (rows : List (List Ent)) (is : List Nat) : List (Int × Int) := is.flatMap fun i => slotsOf (rows.getD i [])
def zDm (l : List Ent) : Bool := l.any fun e => decide (8 ≤ e.key) || decide (255 < e.value)
def brOk (c : Cfg) (z : Int) : Bool := decide (0 ≤ z) && decide (z < c.br)
def zAv (c : Cfg) (a b : Int) (rows : List (List Ent)) : List Int × Int :=
 if zAh c = false then ([], 4)
 else if brOk c a = false ∨ brOk c b = false then ([], 2)
 else if rows.length ≠ c.la.zs.length then ([], 1)
 else if rows.any (fun l => !mayP l) = true then ([], 4)
 else if (zAn a.toNat b.toNat c.la.zs 0).any (fun i => zDm (rows.getD i [])) = true then ([], 12)
 else (bytesOf (zAw (zCv rows (zAn a.toNat b.toNat c.la.zs 0))) (34 * (zAn a.toNat b.toNat c.la.zs 0).length), 0)
theorem zRc : ∀ (n : Nat) (b : Int), szGo (List.replicate n 34) b = ((b + 34 * n + 7) / 8, 0)
 | 0, b => by simp [szGo]
 | n + 1, b => by
  rw [List.replicate_succ, szGo, if_neg (by omega), zRc n]
  congr 2
  omega
theorem zJo (rows : List (List Ent)) : ∀ is : List Nat, (zCv rows is).map (·.1) = List.replicate (8 * is.length) 34
 | [] => rfl
 | i :: is => by
  have h := zJo rows is
  unfold zCv at h ⊢
  rw [List.flatMap_cons, List.map_append, h]
  have e : (slotsOf (rows.getD i [])).map (·.1) = List.replicate 8 34 := by simp [slotsOf, List.range_succ]
  rw [e, List.replicate_append_replicate]
  congr 1
  simp; omega
theorem rum_pack (rows : List (List Ent)) (is : List Nat) (hl : is.length ≤ 4) (h : ∀ i ∈ is, ∀ e ∈ rows.getD i [], zIq e) : zEh (zCv rows is) = (bytesOf (zAw (zCv rows is)) (34 * is.length), 0) := by
 unfold zEh
 have hs : zDt ((zCv rows is).map (·.1)) = (((34 * is.length : Nat) : Int), 0) := by
  rw [zJo]
  unfold zDt
  rw [List.length_replicate, if_neg (by omega), zRc]
  congr 1
  omega
 rw [hs]
 dsimp only
 rw [if_neg (by simp), if_pos, Int.toNat_natCast]
 rw [List.all_eq_true]
 intro f hf
 unfold zCv at hf
 obtain ⟨i, hi, hf⟩ := List.mem_flatMap.1 hf
 unfold slotsOf at hf
 obtain ⟨k, hk, rfl⟩ := List.mem_map.1 hf
 have := zUx (h i hi) k
 generalize zDu (rows.getD i []) k = v at this
 unfold zGs
 simp
 omega
end
section
open Go.RowKit
theorem zHx (k x y : Nat) (hk : k ≤ 62) (hx : x * 2 ^ k < 9223372036854775808) (hy : y < 2 ^ k) : bits .or .i64 ((x * 2 ^ k : Nat) : Int) (y : Int) = ((x * 2 ^ k + y : Nat) : Int) := by
 have hp : (2:Nat) ^ k ≤ 2 ^ 62 := Nat.pow_le_pow_right (by omega) hk
 rw [zPs _ _ hx (by omega), nat_join k _ _ (by simp) hy]
theorem zTv (a value time who : Nat) (ha : a ≤ 3) (v2 : value ≤ 255) (t2 : time ≤ 1048576) (w2 : who ≤ 7) :
    bits .or .i64 (wrap64 (bits .or .i64 (wrap64 (bits .or .i64 ((a * 2 ^ 8 : Nat) : Int) value * 2097152)) time * 8)) who = ((((a * 256 + value) * 2097152 + time) * 8 + who : Nat) : Int) := by
 rw [zHx 8 a value (by omega) (by omega) (by omega)]
 rw [show wrap64 (((a * 2 ^ 8 + value : Nat) : Int) * 2097152) = (((a * 256 + value) * 2 ^ 21 : Nat) : Int) by unfold wrap64; omega]
 rw [zHx 21 (a * 256 + value) time (by omega) (by omega) (by omega)]
 rw [show wrap64 ((((a * 256 + value) * 2 ^ 21 + time : Nat) : Int) * 8) = ((((a * 256 + value) * 2097152 + time) * 2 ^ 3 : Nat) : Int) by unfold wrap64; omega]
 rw [zHx 3 _ who (by omega) (by omega) (by omega)]
theorem zTe (e : Ent) (w : World) (h : zIq e) : Calls Tryz.prog 109 #[entV e] w fun x w' => x = .returned (.int .i64 (zDw e)) ∧ Below w.heap.size w w' := by
 obtain ⟨⟨v1, v2⟩, ⟨t1, t2⟩, ⟨w1, w2⟩⟩ := h
 obtain ⟨key, value, time, who, gone⟩ := e
 dsimp only at v1 v2 t1 t2 w1 w2
 obtain ⟨value, rfl⟩ := Int.eq_ofNat_of_zero_le v1
 obtain ⟨time, rfl⟩ := Int.eq_ofNat_of_zero_le t1
 obtain ⟨who, rfl⟩ := Int.eq_ofNat_of_zero_le w1
 unfold entV
 dsimp only
 have hv2 : value ≤ 255 := by omega
 have ht2 : time ≤ 1048576 := by omega
 have hw2 : who ≤ 7 := by omega
 have hb : Below w.heap.size w (w.alloc (.cells #[.int .i64 key, .int .i64 value, .int .i64 time, .int .i64 who, .bool gone] 125)) := (Below.refl _ _).alloc (Nat.le_refl _) _
 have HB := hide hb
 cases gone
 ·have HS := hide (zTv 2 value time who (by omega) hv2 ht2 hw2)
  clear hb
  go_enter Tryz.func109, Tryz.ntmps109
  go_wp2_with fail
  go_ret
  exact ⟨zBn (zAa HS), zAa HB⟩
 ·have HS := hide (zTv 3 value time who (by omega) hv2 ht2 hw2)
  clear hb
  go_enter Tryz.func109, Tryz.ntmps109
  go_wp2_with fail
  go_ret
  exact ⟨zBn (zAa HS), zAa HB⟩
theorem zTc (z : Int) (c : Cfg) (p : Nat) (w : World) (hbr : -9000000000000000000 ≤ c.br ∧ c.br ≤ 9000000000000000000) (hp : w.cell? ⟨p, 0, none⟩ = some (.int .i64 c.br)) :
    Calls Tryz.prog 126 #[.int .i64 z, .pointer (some ⟨p, 0, none⟩)] w fun x w' => x = .returned (.bool (!brOk c z)) ∧ w = w' := by
 obtain ⟨br, la, tk, mi, cap⟩ := c
 dsimp only at hp hbr
 have H := hide (zFl z 0 (br - 1) w)
 have HF := hide (show inB z 0 (br - 1) = brOk ⟨br, la, tk, mi, cap⟩ z by unfold inB brOk; dsimp only; rw [Bool.eq_iff_iff]; simp; omega)
 obtain ⟨h1, h2⟩ := hbr
 generalize inB z 0 (br - 1) = x at H HF
 go_enter Tryz.func126, Tryz.ntmps126
 go_wp2_with fail
 refine (zAa H).mono ?_
 rintro _ _ ⟨rfl, rfl⟩
 go_wp2_with fail
 go_ret
 exact ⟨zAo (by rw [← zAa HF]), rfl⟩
theorem zPb (args : Array Value) (W : World) : (callFunc 126 args).run Tryz.prog W = .ok (.enter 126 args) W :=
 zDh Tryz.func126 (by kernel_rfl) rfl args W
def Cfg.cells (c : Cfg) : List Value := [.int .i64 c.br, .slice c.la.A c.la.n c.la.c, .int .i64 c.tk, .slice c.mi.A c.mi.n c.mi.c, .int .i64 c.cap]
theorem zGa (c : Cfg) (A : Option Addr) (n cc : Nat) (zs : List Int) (B : Nat) (w : World) (hbr : -9000000000000000000 ≤ c.br ∧ c.br ≤ 9000000000000000000) (hl : zs.length = n) (hm : n ≤ maxLen) (hr : Reads w B 1 A n (zs.map (.int .i64))) (hB : B ≤ w.heap.size) :
    Calls Tryz.prog 104 #[c.val, .slice A n cc] w fun e w' => e = .returned (.bool (zs.all (brOk c))) ∧ Below w.heap.size w w' := by
 obtain ⟨w1, hw1⟩ : ∃ w1, w1 = w.alloc (.cells c.cells.toArray 24) := ⟨_, rfl⟩
 have hb1 : Below w.heap.size w w1 := by rw [hw1]; exact (Below.refl _ _).alloc (Nat.le_refl _) _
 obtain ⟨p, hp⟩ : ∃ p, p = w.heap.size := ⟨_, rfl⟩
 have kb : Blk w1 p 24 c.cells.toArray := by rw [hw1, hp]; exact Blk.new w _ _
 have HCF := hide (zHk 126 #[.pointer (some ⟨p, 0, none⟩)] (fun z => !brOk c z) A n cc zs B (fun W => w1 = W) w1 hl hm (fun W hW => by rw [← hW]; exact hr.below (hb1.mono hB)) rfl zPb (fun z W _ hW => by
  rw [← hW]
  exact zTc z c p w1 hbr (kb.cell 0)))
 have HF := hide (show (!zs.any fun z => !brOk c z) = zs.all (brOk c) by rw [List.any_eq_not_all_not]; simp)
 generalize (zs.any fun z => !brOk c z) = x at HCF HF
 have HW1 := hide hw1
 have HP := hide hp
 have HB := hide hb1
 clear hb1 kb hl hm hr hp hw1
 obtain ⟨br, la, tk, mi, cap⟩ := c
 unfold Cfg.cells at HW1
 unfold Cfg.val
 dsimp only at HW1 ⊢
 go_enter Tryz.func104, Tryz.ntmps104
 go_upto_region 1 with fail
 rw [← zAa HP]
 rw [show w.alloc (.cells #[.int .i64 br, .slice la.A la.n la.c, .int .i64 tk, .slice mi.A mi.n mi.c, .int .i64 cap] 24) = w1 from (zAa HW1).symm]
 go_wp2_with fail
 refine (zAa HCF).mono ?_
 rintro _ _ ⟨rfl, rfl⟩
 go_wp2_with fail
 go_ret
 exact ⟨zAo (zAa HF), zAa HB⟩
end
section
open Go.RowKit
theorem yDv (z a b : Nat) (hz : z ≤ 255) : (bits .and .i64 (bits .and .i64 ((z : Int) / 2 ^ a) ((z : Int) / 2 ^ b)) 1 == 1) = (z.testBit a && z.testBit b) := by
 have ea : ((z:Int) / 2 ^ a) = ((z / 2 ^ a : Nat) : Int) := by simp
 have eb : ((z:Int) / 2 ^ b) = ((z / 2 ^ b : Nat) : Int) := by simp
 have ha : z / 2 ^ a ≤ 255 := Nat.le_trans (Nat.div_le_self _ _) hz
 have hb : z / 2 ^ b ≤ 255 := Nat.le_trans (Nat.div_le_self _ _) hz
 have hab : (z / 2 ^ a) &&& (z / 2 ^ b) ≤ 255 := Nat.le_trans Nat.and_le_left ha
 rw [ea, eb, zFj _ _ (by omega) (by omega), show (1:Int) = ((1:Nat):Int) from rfl, zFj _ _ (by omega) (by omega), Nat.and_one_is_mod]
 have h : ((z / 2 ^ a) &&& (z / 2 ^ b)).testBit 0 = (z.testBit a && z.testBit b) := by
  rw [Nat.testBit_and, Nat.testBit_div_two_pow, Nat.testBit_div_two_pow]
  simp
 rw [← h, Nat.testBit_zero]
 generalize (z / 2 ^ a) &&& (z / 2 ^ b) = x
 rw [Bool.eq_iff_iff]; simp; omega
set_option maxRecDepth 100000 in
set_option maxHeartbeats 2000000 in
theorem zKd (c : Cfg) (a b : Nat) (B : Nat) (w : World) (hc : c.ok w B) (hB : B ≤ w.heap.size) (ha : a ≤ 60) (hb : b ≤ 60) (h4 : c.la.zs.length ≤ 4) (hz : ∀ z ∈ c.la.zs, 0 ≤ z ∧ z ≤ 255) :
    Calls Tryz.prog 108 #[c.val, .int .i64 a, .int .i64 b] w fun e w' => ∃ v, e = .returned v ∧ w'.ownsRow w.heap.size 3 1 v (zAn a b c.la.zs 0).length ((zAn a b c.la.zs 0).map fun i => Value.int .i64 ((i : Nat) : Int)) ∧ Below w.heap.size w w' := by
 obtain ⟨br, ⟨lA, ln, lc, ls⟩, tk, mi, cap⟩ := c
 obtain ⟨⟨l1, l2, l3, l4⟩, _, _⟩ := hc
 dsimp only at l1 l2 l3 l4 h4 hz
 obtain ⟨w1, hw1⟩ : ∃ w1, w1 = w.alloc (.cells #[.int .i64 br, .slice lA ln lc, .int .i64 tk, .slice mi.A mi.n mi.c, .int .i64 cap] 24) := ⟨_, rfl⟩
 have hb1 : Below w.heap.size w w1 := by rw [hw1]; exact (Below.refl _ _).alloc (Nat.le_refl _) _
 obtain ⟨p, hp⟩ : ∃ p, p = w.heap.size := ⟨_, rfl⟩
 have kb : Blk w1 p 24 #[.int .i64 br, .slice lA ln lc, .int .i64 tk, .slice mi.A mi.n mi.c, .int .i64 cap] := by rw [hw1, hp]; exact Blk.new w _ _
 have p1 : w1.cell? ⟨p, 1, none⟩ = some (.slice lA ln lc) := kb.cell 1
 obtain ⟨iI, hiI, hzI, hsI, hyI⟩ : ∃ i, Tryz.prog.info? 3 = some i ∧ i.zero = some (.int .i64 0) ∧ i.size = 1 ∧ i.bytes = 8 := zEm (by kernel_rfl)
 have HLR := hide ((l4.more hB))
 have HL := hide l1
 have hln : ln ≤ 4 := by omega
 have HZ := hide hz
 have HW1 := hide hw1
 have HP := hide hp
 have HB1 := hide hb1
 unfold Cfg.val
 dsimp only
 clear l1 l2 l3 l4 hz hw1 hp kb hb1 h4
 go_enter Tryz.func108, Tryz.ntmps108
 go_upto_region 1 with fail
 rw [← zAa HP, ← zAa HW1]
 go_wp2_with fail
 go_loopw [7, 13] (fun o j W => ∃ (k : Nat) (M : List Nat), k ≤ ln ∧ j = .int .i64 k ∧ Hid (M ++ zAn a b (ls.drop k) k = zAn a b ls 0) ∧ Hid (M.length ≤ k) ∧ Hid (W.ownsRow w.heap.size 3 1 o M.length (M.map fun i => Value.int .i64 ((i : Nat) : Int))) ∧ Below w.heap.size w W) (fun _ j _ => ln - (intOf j).toNat)
 case atStart => exact ⟨0, [], Nat.zero_le _, rfl, rfl, hide (Nat.le_refl _), World.ownsRow_nil _ _ _ _, zAa HB1⟩
 case round =>
  obtain ⟨k, M, hk, rfl, HM, HML, HO, hz⟩ := hrel
  by_cases hlt : k < ln
  ·obtain ⟨b1, o1, z, rfl, hbl, hzk, hcz⟩ := zDd ((zAa HLR).below hz) hlt
   have hzz := zAa HZ z (List.mem_of_getElem? hzk)
   obtain ⟨z, rfl⟩ := Int.eq_ofNat_of_zero_le hzz.1
   have hbb := yDv z a b (by omega)
   have HM2 := hide (show M ++ (if z.testBit a && z.testBit b then k :: zAn a b (ls.drop (k + 1)) (k + 1) else zAn a b (ls.drop (k + 1)) (k + 1)) = zAn a b ls 0 by
    have h := zAa HM
    rw [zCb ls k z hzk, zAn, Int.toNat_natCast] at h
    exact h)
   have hkn : (k : Int) < (ln : Int) := by omega
   clear HM hzk hbl hzz
   obtain ⟨x, hx⟩ : ∃ x, x = (z.testBit a && z.testBit b) := ⟨_, rfl⟩
   rw [← hx] at hbb HM2
   clear hx
   go_wp2_with fail
   go_quiet (fail)
   have hzd : Below w.heap.size w (wr.drewN nq) := below_drewN hz nq
   cases x
   ·go_wp2_with fail
    go_roundw
    case rel => exact ⟨k + 1, M, by omega, by go_num, by simpa using HM2, hide (by have := zAa HML; omega), HO, hzd⟩
    case measure => simp [intOf]; omega
   ·obtain ⟨A1, c1, rfl, _⟩ := zAf (zAa HO)
    have hml := zAa HML
    obtain ⟨q, hq⟩ : ∃ q, q = M.length := ⟨_, rfl⟩
    rw [← hq] at HO hml
    rw [← hq]
    have HQ := hide hq
    have hmq : (q + 1) * 8 ≤ 140737488355328 := by omega
    have hs := hz.size
    have HOD := hide (show (wr.drewN nq).ownsRow w.heap.size 3 1 (.slice A1 q c1) q (M.map fun i => Value.int .i64 ((i : Nat) : Int)) from zAa HO)
    clear hq
    go_wp2_with (first
     | (at_builtin; (refine zAl _ rfl (.tmp 27) (.tmp 29) _ rfl w.heap.size 3 iI _ 1 8 Tryz.underlying22 hiI hzI hsI hyI rfl (by omega) (by omega) _ q _ (zAa HOD) rfl _ 1 _ rfl rfl rfl (by simp [Value.oneCell']) hmq hs ?_); intro g4 cap4 w4 hg4 hown4 hbel4 hgr4 hat4))
    have HO4 := hide (show w4.ownsRow w.heap.size 3 1 (.slice (some ⟨g4, 0, none⟩) (q + 1) cap4) (M ++ [k]).length ((M ++ [k]).map fun i => Value.int .i64 ((i : Nat) : Int)) by rw [List.length_append, List.map_append, ← zAa HQ]; simpa using hown4)
    have HB4 := hide (hbel4 _ _ (Nat.le_refl _) hzd)
    clear hown4 hbel4 hgr4 hat4 hg4
    go_roundw
    case rel => exact ⟨k + 1, M ++ [k], by omega, by go_num, hide (by have h := zAa HM2; simpa using h), hide (by rw [List.length_append, ← zAa HQ]; simp; omega), HO4, zAa HB4⟩
    case measure => simp [intOf]; omega
  ·obtain rfl : k = ln := by omega
   go_wp2_with fail
   go_ret
   refine ⟨_, rfl, ?_, hz⟩
   have h := zAa HM
   rw [List.drop_of_length_le (by rw [zAa HL]; exact Nat.le_refl _), zAn, List.append_nil] at h
   rw [← h]
   exact zAa HO
end
section
open Go.RowKit
def idxL {α : Type} (f : α → Bool) : List α → Nat → Int
 | [], _ => -1
 | z :: l, k => if f z then k else idxL f l (k + 1)
theorem zUu {α : Type} (f : α → Bool) : ∀ (l : List α) (k : Nat), decide (0 ≤ idxL f l k) = l.any f
 | [], k => by simp [idxL]
 | z :: l, k => by
  cases hf : f z with
  | true => simp [idxL, hf]
  | false => simp only [idxL, hf, List.any_cons, Bool.false_or]; exact zUu f l (k + 1)
set_option maxHeartbeats 1000000 in
theorem zUv (fn : FuncId) (f : EnR → Bool) (A : Option Addr) (n c : Nat) (rs : List EnR) (w : World) (hl : rs.length = n) (hm : n ≤ maxLen)
    (hr : Reads w w.heap.size 1 A n (rs.map EnR.val))
    (hrun : ∀ args W, (callFunc fn args).run Tryz.prog W = .ok (.enter fn args) W)
    (h : ∀ r W, r ∈ rs → Below w.heap.size w W → Calls Tryz.prog fn #[r.val] W fun x w' => x = .returned (.bool (f r)) ∧ Below w.heap.size w w') :
    Calls Tryz.prog 127 #[.slice A n c, .func (.func fn) #[] #[]] w fun e w' => e = .returned (.int .i64 (idxL f rs 0)) ∧ Below w.heap.size w w' := by
 have HR := hide hr
 have HL := hide hl
 have H := hide h
 unfold maxLen at hm
 clear hr hl h
 go_enter Tryz.func127, Tryz.ntmps127
 go_wp2_with fail
 go_loopw [8] (fun i wr => ∃ (k : Nat), k ≤ n ∧ i = .int .i64 k ∧ Hid (Below w.heap.size w wr) ∧ Hid (idxL f (rs.drop k) k = idxL f rs 0)) (fun i _ => n - (intOf i).toNat)
 case atStart => exact ⟨0, Nat.zero_le _, rfl, Below.refl _ _, rfl⟩
 case round =>
  obtain ⟨k, hk, rfl, HW, HX⟩ := hrel
  by_cases hlt : k < n
  ·obtain ⟨b, o, r, rfl, hbl, hz, hc⟩ := zMq EnR.val ((zAa HR).below (zAa HW)) hlt
   have HX2 := hide (by have h := zAa HX; rw [zCb rs k r hz, idxL] at h; exact h)
   have H2 := hide (zAa H r wr (List.mem_of_getElem? hz) (zAa HW))
   clear HX hz
   obtain ⟨v, hv⟩ : ∃ v, v = r.val := ⟨_, rfl⟩
   rw [← hv] at H2 hc
   clear hv
   cases hf : f r with
   | true =>
    have HX3 := hide (by have h := zAa HX2; rw [if_pos hf] at h; exact h)
    rw [hf] at H2
    clear HX2
    go_wp2_with fail
    refine (zAa H2).mono ?_
    rintro _ w2 ⟨rfl, hb2⟩
    have HB2 := hide hb2
    clear hb2
    go_wp2_with fail
    go_ret
    exact ⟨zBn (zAa HX3), zAa HB2⟩
   | false =>
    have HX3 := hide (by have h := zAa HX2; rw [if_neg (by rw [hf]; simp)] at h; exact h)
    rw [hf] at H2
    clear HX2
    go_wp2_with fail
    refine (zAa H2).mono ?_
    rintro _ w2 ⟨rfl, hb2⟩
    have HB2 := hide hb2
    clear hb2
    go_wp2_with fail
    go_roundw
    case rel => exact ⟨k + 1, by omega, by go_num, HB2, zAa HX3⟩
    case measure => simp [intOf]; omega
  ·obtain rfl : k = n := by omega
   have HF := hide (show idxL f rs 0 = -1 by
    have h := zAa HX
    rw [List.drop_of_length_le (by rw [zAa HL]; exact Nat.le_refl _)] at h
    exact h.symm)
   clear HX
   go_wp2_with fail
   go_ret
   exact ⟨zBn (zAa HF).symm, zAa HW⟩
theorem zKk (fn : FuncId) (f : EnR → Bool) (A : Option Addr) (n c : Nat) (rs : List EnR) (w : World) (hl : rs.length = n) (hm : n ≤ maxLen)
    (hr : Reads w w.heap.size 1 A n (rs.map EnR.val))
    (hrun : ∀ args W, (callFunc fn args).run Tryz.prog W = .ok (.enter fn args) W)
    (h : ∀ r W, r ∈ rs → Below w.heap.size w W → Calls Tryz.prog fn #[r.val] W fun x w' => x = .returned (.bool (f r)) ∧ Below w.heap.size w w') :
    Calls Tryz.prog 105 #[.slice A n c, .func (.func fn) #[] #[]] w fun e w' => e = .returned (.bool (rs.any f)) ∧ Below w.heap.size w w' := by
 have H := hide (zUv fn f A n c rs w hl hm hr hrun h)
 have HF := hide (zUu f rs 0)
 obtain ⟨x, hx⟩ : ∃ x, idxL f rs 0 = x := ⟨_, rfl⟩
 rw [hx] at H HF
 clear hl hr hrun h hm hx
 go_enter Tryz.func105, Tryz.ntmps105
 go_wp2_with fail
 refine (zAa H).mono ?_
 rintro _ w2 ⟨rfl, hb2⟩
 have HB2 := hide hb2
 clear hb2
 go_wp2_with fail
 go_ret
 exact ⟨zAo (by rw [← zAa HF]), zAa HB2⟩
theorem zQb (A : Option Addr) (n c : Nat) (l : List Ent) (B : Nat) (w : World) (hl : l.length = n) (hm : n ≤ maxLen) (hr : Reads w B 5 A n (l.flatMap zAd)) (hB : B ≤ w.heap.size) :
    Calls Tryz.prog 106 #[.slice A n c] w fun x w' => x = .returned (.bool (!mayP l)) ∧ Below w.heap.size w w' := by
 have H := hide (zJb A n c l B w hl hm hr hB)
 clear hl hm hr
 generalize mayP l = x at H
 go_enter Tryz.func106, Tryz.ntmps106
 go_wp2_with fail
 refine (zAa H).mono ?_
 rintro _ w2 ⟨rfl, hb2⟩
 have HB2 := hide hb2
 clear hb2
 go_wp2_with fail
 go_ret
 exact ⟨rfl, zAa HB2⟩
theorem zMk (args : Array Value) (W : World) : (callFunc 106 args).run Tryz.prog W = .ok (.enter 106 args) W :=
 zDh Tryz.func106 (by kernel_rfl) rfl args W
end
section
open Go.RowKit
def zIb (r : List Int × Int) (w : World) (e : Ending) (w' : World) : Prop :=
 ∃ v, e = .returned (.tuple #[v, .int .i64 r.2]) ∧ w'.ownsRow w.heap.size 5 1 v r.1.length (r.1.map (.int .u8)) ∧ Below w.heap.size w w'
def TabR.es (t : TabR) : List (List Ent) := t.rs.map EnR.es
structure TabOk (w : World) (B : Nat) (t : TabR) : Prop where
 rd : TabRd w B t
 len : t.rs.length ≤ maxLen
 each : ∀ r ∈ t.rs, r.es.length ≤ maxLen
theorem TabOk.below {w w' : World} {B : Nat} {t : TabR} (h : TabOk w B t) (hb : Below B w w') : TabOk w' B t := ⟨h.rd.below hb, h.len, h.each⟩
theorem TabOk.more {w : World} {B B' : Nat} {t : TabR} (h : TabOk w B t) (hb : B ≤ B') : TabOk w B' t := ⟨h.rd.more hb, h.len, h.each⟩
theorem zKm {c : Cfg} (h : zAh c = true) : 1 ≤ c.br ∧ c.br ≤ 8 ∧ c.la.zs.length ≤ 4 ∧ ∀ z ∈ c.la.zs, 0 ≤ z ∧ z ≤ 255 := by
 unfold zAh at h
 simp only [Bool.and_eq_true, inB, decide_eq_true_eq, Bool.not_eq_true'] at h
 obtain ⟨⟨⟨⟨⟨⟨h1, h2⟩, h3⟩, h4⟩, h5⟩, h6⟩, h7⟩ := h
 refine ⟨h1.1, h1.2, h2, fun z hz => ?_⟩
 have := List.any_eq_false.1 h6 z hz
 unfold zFb at this
 simp only [Bool.or_eq_true, decide_eq_true_eq] at this
 have hp : (2:Nat) ^ c.br.toNat ≤ 2 ^ 8 := Nat.pow_le_pow_right (by omega) (by omega)
 have hp' : (2:Int) ^ c.br.toNat ≤ 256 := by
  have : ((2 ^ c.br.toNat : Nat) : Int) ≤ 256 := by omega
  simpa using this
 omega
set_option maxRecDepth 100000 in
set_option maxHeartbeats 4000000 in
theorem zVl (c : Cfg) (a b : Int) (t : TabR) (B : Nat) (w : World) (hc : c.ok w B) (ht : TabOk w B t) (hB : B ≤ w.heap.size) (hbad : ¬ (zAh c = true ∧ (brOk c a = true ∧ brOk c b = true) ∧ t.es.length = c.la.zs.length ∧ t.es.any (fun l => !mayP l) = false)) :
    Calls Tryz.prog 81 #[c.val, .int .i64 a, .int .i64 b, t.val] w (zIb (zAv c a b t.es) w) := by
 have hfin : ∀ (x : Int) W, Below w.heap.size w W → zAv c a b t.es = ([], x) → zIb (zAv c a b t.es) w (.returned (.tuple #[.slice none 0 0, .int .i64 x])) W := fun x W hW hp => by
  rw [hp]
  exact ⟨_, rfl, World.ownsRow_nil _ _ _ _, hW⟩
 have HFIN := hide hfin
 have HMY := hide (fun W (hW : Below w.heap.size w W) => zEe c B W (hc.below (hW.mono hB)) (Nat.le_trans hB hW.size))
 have HBR := hide (fun (W : World) (h : zAh c = true) (A : Option Addr) (cc : Nat) (hr : Reads W W.heap.size 1 A 2 ([a, b].map (.int .i64))) => zGa c A 2 cc [a, b] W.heap.size W (by have := zKm h; omega) rfl (by unfold maxLen; omega) hr (Nat.le_refl _))
 have HTC := hide (fun (W : World) (hW : Below w.heap.size w W) => zKk 106 (fun r => !mayP r.es) t.A t.rs.length t.c t.rs W rfl ht.len ((ht.rd.below (hW.mono hB)).1.more (Nat.le_trans hB hW.size)) zMk (fun r W2 hr hW2 => (zQb r.A r.es.length r.c r.es W.heap.size W2 rfl (ht.each r hr) ((((ht.rd.below (hW.mono hB)).2 r hr).more (Nat.le_trans hB hW.size)).below hW2) hW2.size).mono fun _ _ ⟨he, hb⟩ => ⟨he, hW2.trans (hb.mono hW2.size)⟩))
 have hll := hc.1.1
 have hlm := hc.1.2.2.1
 have htl : t.es.length = t.rs.length := by unfold TabR.es; rw [List.length_map]
 have hte : t.es.any (fun l => !mayP l) = t.rs.any (fun r => !mayP r.es) := by unfold TabR.es; rw [List.any_map]; rfl
 rw [← hte] at HTC
 obtain ⟨rs, tA, tc⟩ := t
 unfold TabR.val
 dsimp only at HTC htl ⊢
 have hbnd := ht.len
 dsimp only at hbnd
 unfold maxLen at hbnd hlm
 obtain ⟨w1, hw1⟩ : ∃ w1, w1 = w.alloc (.cells c.cells.toArray 24) := ⟨_, rfl⟩
 have hb1 : Below w.heap.size w w1 := by rw [hw1]; exact (Below.refl _ _).alloc (Nat.le_refl _) _
 obtain ⟨p, hp⟩ : ∃ p, p = w.heap.size := ⟨_, rfl⟩
 have kb : Blk w1 p 24 c.cells.toArray := by rw [hw1, hp]; exact Blk.new w _ _
 have HB1 := hide hb1
 have HW1 := hide hw1
 have HP := hide hp
 have HRP := hide (show zAv c a b (TabR.es ⟨rs, tA, tc⟩) = zAv c a b (TabR.es ⟨rs, tA, tc⟩) from rfl)
 have hP1 : zAh c = false → zAv c a b (TabR.es ⟨rs, tA, tc⟩) = ([], 4) := fun h => by unfold zAv; rw [if_pos h]
 have hP2 : zAh c = true → (brOk c a = false ∨ brOk c b = false) → zAv c a b (TabR.es ⟨rs, tA, tc⟩) = ([], 2) := fun h h2 => by unfold zAv; rw [if_neg (by rw [h]; simp), if_pos h2]
 have hP3 : zAh c = true → (brOk c a = true ∧ brOk c b = true) → (TabR.es ⟨rs, tA, tc⟩).length ≠ c.la.zs.length → zAv c a b (TabR.es ⟨rs, tA, tc⟩) = ([], 1) := fun h h2 h3 => by unfold zAv; rw [if_neg (by rw [h]; simp), if_neg (by rw [h2.1, h2.2]; simp), if_pos h3]
 have hP4 : zAh c = true → (brOk c a = true ∧ brOk c b = true) → (TabR.es ⟨rs, tA, tc⟩).length = c.la.zs.length → (TabR.es ⟨rs, tA, tc⟩).any (fun l => !mayP l) = true → zAv c a b (TabR.es ⟨rs, tA, tc⟩) = ([], 4) := fun h h2 h3 h4 => by unfold zAv; rw [if_neg (by rw [h]; simp), if_neg (by rw [h2.1, h2.2]; simp), if_neg (by rw [h3]; simp), if_pos h4]
 generalize zAv c a b (TabR.es ⟨rs, tA, tc⟩) = R at *
 have HP1 := hide hP1
 have HP2 := hide hP2
 have HP3 := hide hP3
 have HP4 := hide hP4
 have k0 := fun (W : World) (hz : Below w1.heap.size w1 W) => (kb.below hz kb.lt).cell 0
 have k1 := fun (W : World) (hz : Below w1.heap.size w1 W) => (kb.below hz kb.lt).cell 1
 have k2 := fun (W : World) (hz : Below w1.heap.size w1 W) => (kb.below hz kb.lt).cell 2
 have k3 := fun (W : World) (hz : Below w1.heap.size w1 W) => (kb.below hz kb.lt).cell 3
 have k4 := fun (W : World) (hz : Below w1.heap.size w1 W) => (kb.below hz kb.lt).cell 4
 have hz1 : Below w1.heap.size w1 w1 := Below.refl _ _
 clear hb1 kb hp hw1 hc ht hfin hP1 hP2 hP3 hP4 HRP hte
 obtain ⟨br, ⟨lA, ln, lc, ls⟩, tk, ⟨mA, mn, mc, ms⟩, cap⟩ := c
 unfold Cfg.cells at HW1 k0 k1 k2 k3 k4
 unfold Cfg.val at HMY HBR ⊢
 dsimp only at HMY HBR HW1 k0 k1 k2 k3 k4 hll hlm htl ⊢
 simp only [List.getElem?_toArray, List.getElem?_cons_zero, List.getElem?_cons_succ] at k0 k1 k2 k3 k4
 have hbad2 := hide hbad
 dsimp only at hbad2
 clear hbad
 cases hcf : zAh ⟨br, ⟨lA, ln, lc, ls⟩, tk, ⟨mA, mn, mc, ms⟩, cap⟩
 ·rw [hcf] at HMY HP1
  clear hcf
  go_enter Tryz.func81, Tryz.ntmps81
  go_upto_region 1 with fail
  rw [← zAa HP, ← zAa HW1]
  go_wp2_with fail
  refine (zAa HMY w1 (zAa HB1)).mono ?_
  rintro _ w2 ⟨rfl, hb2⟩
  have HB2 := hide ((zAa HB1).trans (hb2.mono (zAa HB1).size))
  clear hb2
  go_wp2_with fail
  go_ret2
  exact zAa HFIN _ _ (zAa HB2) (zAa HP1 trivial)
 rw [hcf] at HMY HBR HP2 HP3 HP4
 have HBA := hide (zAa hbad2)
 rw [hcf] at HBA
 clear hcf hbad2
 have HCB := hide (fun (W : World) (hW : Below w1.heap.size w1 W) (cc : Nat) (g : Nat) (hg : Blk W g 3 #[.int .i64 a, .int .i64 b]) => zAa HBR W rfl (some ⟨g, 0, none⟩) cc (by have := zCh (cs := [.int .i64 a, .int .i64 b]) hg hg.lt; simpa using this))
 clear HBR
 cases hab : brOk ⟨br, ⟨lA, ln, lc, ls⟩, tk, ⟨mA, mn, mc, ms⟩, cap⟩ a && brOk ⟨br, ⟨lA, ln, lc, ls⟩, tk, ⟨mA, mn, mc, ms⟩, cap⟩ b
 ·have HPX := hide (zAa HP2 rfl (by rw [← Bool.and_eq_false_iff]; exact hab))
  have HCB' := hide (by have h := zAa HCB; simp only [List.all_cons, List.all_nil, Bool.and_true] at h; rw [hab] at h; exact h)
  clear hab HCB
  go_enter Tryz.func81, Tryz.ntmps81
  go_upto_region 1 with fail
  rw [← zAa HP, ← zAa HW1]
  go_wp2_with fail
  refine (zAa HMY w1 (zAa HB1)).mono ?_
  rintro _ w2 ⟨rfl, hb2⟩
  have hz2 : Below w1.heap.size w1 w2 := hb2
  have HB2 := hide ((zAa HB1).trans (hb2.mono (zAa HB1).size))
  clear hb2
  go_wp2_with fail
  have hz3 : Below w1.heap.size w1 (w2.alloc (.cells #[.int .i64 a, .int .i64 b] 3)) := hz2.alloc hz2.size _
  refine (zAa HCB' _ hz3 2 _ (Blk.new w2 _ _)).mono ?_
  rintro _ w3 ⟨rfl, hb3⟩
  have HB3 := hide ((zAa HB1).trans ((hz3.trans (hb3.mono hz3.size)).mono (zAa HB1).size))
  clear hb3 hz3
  go_wp2_with fail
  go_ret2
  exact zAa HFIN _ _ (zAa HB3) (zAa HPX)
 have hab2 : brOk ⟨br, ⟨lA, ln, lc, ls⟩, tk, ⟨mA, mn, mc, ms⟩, cap⟩ a = true ∧ brOk ⟨br, ⟨lA, ln, lc, ls⟩, tk, ⟨mA, mn, mc, ms⟩, cap⟩ b = true := by simpa using hab
 have HBC := hide (fun h => zAa HBA ⟨rfl, hab2, h⟩)
 have HCB' := hide (by have h := zAa HCB; simp only [List.all_cons, List.all_nil, Bool.and_true] at h; rw [hab] at h; exact h)
 have HP3' := hide (zAa HP3 rfl hab2)
 have HP4' := hide (zAa HP4 rfl hab2)
 have HTL := hide htl
 have HLL := hide hll
 clear hab hab2 HCB HBA HP3 HP4 HP1 HP2 htl hll
 by_cases hn : rs.length = ln
 ·have HPY := hide (by
   cases hm : (TabR.es ⟨rs, tA, tc⟩).any (fun l => !mayP l) with
   | true => exact zAa HP4' (by rw [zAa HTL, zAa HLL, hn]) hm
   | false => exact absurd ⟨by rw [zAa HTL, zAa HLL, hn], hm⟩ (zAa HBC))
  have hm : (TabR.es ⟨rs, tA, tc⟩).any (fun l => !mayP l) = true := by
   cases hm : (TabR.es ⟨rs, tA, tc⟩).any (fun l => !mayP l) with
   | true => rfl
   | false => exact absurd ⟨by rw [zAa HTL, zAa HLL, hn], hm⟩ (zAa HBC)
  rw [hm] at HTC
  have e2 : (rs.length != ln) = false := by simpa using hn
  clear hm hn HP3' HP4' HBC HTL HLL
  generalize rs.length = q at *
  go_enter Tryz.func81, Tryz.ntmps81
  go_upto_region 1 with fail
  rw [← zAa HP, ← zAa HW1]
  go_wp2_with fail
  refine (zAa HMY w1 (zAa HB1)).mono ?_
  rintro _ w2 ⟨rfl, hb2⟩
  have hz2 : Below w1.heap.size w1 w2 := hb2
  have HB2 := hide ((zAa HB1).trans (hb2.mono (zAa HB1).size))
  clear hb2
  go_wp2_with fail
  have hz3 : Below w1.heap.size w1 (w2.alloc (.cells #[.int .i64 a, .int .i64 b] 3)) := hz2.alloc hz2.size _
  refine (zAa HCB' _ hz3 2 _ (Blk.new w2 _ _)).mono ?_
  rintro _ w3 ⟨rfl, hb3⟩
  have hz4 : Below w1.heap.size w1 w3 := hz3.trans (hb3.mono hz3.size)
  have HB3 := hide ((zAa HB1).trans (hz4.mono (zAa HB1).size))
  clear hb3 hz3
  go_wp2_with fail
  refine (zAa HTC _ (zAa HB3)).mono ?_
  rintro _ w4 ⟨rfl, hb4⟩
  have HB4 := hide ((zAa HB3).trans (hb4.mono (zAa HB3).size))
  clear hb4
  go_wp2_with fail
  go_ret2
  exact zAa HFIN _ _ (zAa HB4) (zAa HPY)
 ·have HPX := hide (zAa HP3' (by rw [zAa HTL, zAa HLL]; exact hn))
  have e2 : (rs.length != ln) = true := by simpa using hn
  have e3 : (((rs.length : Nat) : Int) != (ln : Nat)) = true := by simp; omega
  clear HP3' HP4' HBC HTL HLL hn
  generalize rs.length = q at *
  go_enter Tryz.func81, Tryz.ntmps81
  go_upto_region 1 with fail
  rw [← zAa HP, ← zAa HW1]
  go_wp2_with fail
  refine (zAa HMY w1 (zAa HB1)).mono ?_
  rintro _ w2 ⟨rfl, hb2⟩
  have hz2 : Below w1.heap.size w1 w2 := hb2
  have HB2 := hide ((zAa HB1).trans (hb2.mono (zAa HB1).size))
  clear hb2
  go_wp2_with fail
  have hz3 : Below w1.heap.size w1 (w2.alloc (.cells #[.int .i64 a, .int .i64 b] 3)) := hz2.alloc hz2.size _
  refine (zAa HCB' _ hz3 2 _ (Blk.new w2 _ _)).mono ?_
  rintro _ w3 ⟨rfl, hb3⟩
  have hz4 : Below w1.heap.size w1 w3 := hz3.trans (hb3.mono hz3.size)
  have HB3 := hide ((zAa HB1).trans (hz4.mono (zAa HB1).size))
  clear hb3 hz3
  go_wp2_with fail
  go_ret2
  exact zAa HFIN _ _ (zAa HB3) (zAa HPX)
end
end Go.Proofs.YtbolcebmbpepdaaGreatDoor
