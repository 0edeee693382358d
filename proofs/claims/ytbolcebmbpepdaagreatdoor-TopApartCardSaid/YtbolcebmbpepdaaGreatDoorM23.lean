/- Contracts and plain facts, set together by program out of smaller texts. Conditions: none beyond what each theorem states. -/
import Derived.Test.YtbolcebmbpepdaaGreatDoorM21
import Derived.Test.YtbolcebmbpepdaaGreatDoorM10
import Derived.Test.YtbolcebmbpepdaaGreatDoorM05
import Derived.Test.YtbolcebmbpepdaaGreatDoorM16
import Derived.Test.YtbolcebmbpepdaaGreatDoorM12
import Derived.Test.YtbolcebmbpepdaaGreatDoorM09
import Derived.Test.YtbolcebmbpepdaaGreatDoorM11
namespace Go.Proofs.YtbolcebmbpepdaaGreatDoor
set_option linter.unusedVariables false
section
open Go.RowKit
def bigN (z : Int) : Bool := decide (1048576 < z)
theorem zWf (zs : List Int) (k : Nat) (z : Int) (h : zs[k]? = some z) : (zs.take (k + 1)).any bigN = ((zs.take k).any bigN || bigN z) := by
 rw [zBp zs k z h, List.any_append]
 simp
theorem max_any (A : Option Addr) (n c : Nat) (zs : List Int) (B : Nat) (w : World) (hl : zs.length = n) (h1 : 1 ≤ n) (hm : n ≤ 9223372036854775807) (hr : Reads w B 1 A n (zs.map (.int .i64))) :
    Calls Tryz.prog 113 #[.slice A n c] w fun e w' => ∃ m : Int, e = .returned (.int .i64 m) ∧ Hid (bigN m = zs.any bigN) ∧ w = w' := by
 have HL := hide hl
 have HR := hide hr
 obtain ⟨b0, o0, z0, rfl, hbl, hz, hc0⟩ := zDd hr (show 0 < n by omega)
 have HT1 := hide (show bigN z0 = (zs.take 1).any bigN by rw [show (1 : Nat) = 0 + 1 from rfl, zWf zs 0 z0 hz]; simp)
 clear hl hr hz
 simp only [Nat.add_zero] at hc0 hbl
 go_enter Tryz.func113, Tryz.ntmps113
 go_wp2_with fail
 go_loopw [3, 4] (fun x i wr => ∃ (k : Nat) (m : Int), 1 ≤ k ∧ k ≤ n ∧ i = .int .i64 k ∧ x = .int .i64 m ∧ Hid (bigN m = (zs.take k).any bigN) ∧ w = wr) (fun _ i _ => n - (intOf i).toNat)
 case atStart => exact ⟨1, z0, Nat.le_refl _, h1, rfl, rfl, HT1, rfl⟩
 case round =>
  obtain ⟨k, m, hk1, hk, rfl, rfl, HX, rfl⟩ := hrel
  by_cases hlt : k < n
  ·obtain ⟨b, o, z, hA, hbl, hz, hcell⟩ := zDd (zAa HR) hlt
   obtain ⟨rfl, rfl⟩ : b0 = b ∧ o0 = o := by simpa using hA
   have HX2 := hide (zWf zs k z hz)
   clear hz hA
   have HX3 := hide (show (zs.take (k + 1)).any bigN = (bigN m || bigN z) by rw [zAa HX2, ← zAa HX])
   clear HX HX2
   rcases Int.lt_or_le m z with hmz | hmz
   ·have HX4 := hide (show bigN z = (zs.take (k + 1)).any bigN by rw [zAa HX3]; unfold bigN; by_cases hb : 1048576 < m <;> simp [hb]; omega)
    clear HX3
    go_wp2_with fail
    exact ⟨⟨k + 1, _, by omega, by omega, by go_num, rfl, HX4, trivial⟩, by simp [intOf]; omega⟩
   ·have HX4 := hide (show bigN m = (zs.take (k + 1)).any bigN by rw [zAa HX3]; unfold bigN; by_cases hb : 1048576 < m <;> simp [hb]; omega)
    clear HX3
    go_wp2_with fail
    exact ⟨⟨k + 1, _, by omega, by omega, by go_num, rfl, HX4, trivial⟩, by simp [intOf]; omega⟩
  ·obtain rfl : k = n := by omega
   have HF := hide (show bigN m = zs.any bigN by
    have h := zAa HX
    rw [List.take_of_length_le (by rw [zAa HL]; exact Nat.le_refl _)] at h
    exact h)
   clear HX
   go_wp2_with fail
   go_ret
   exact ⟨m, rfl, HF, rfl⟩
theorem zOh (ws bs : List Int) (h : (zBm ws bs).2 = 0) : (zBm ws bs).1.length = ws.length := by
 unfold zBm at h ⊢
 split at h
 ·rename_i h1; exact absurd h h1
 ·rename_i h1
  rw [if_neg h1]
  split at h
  ·simp at h
  ·rename_i h2
   rw [if_neg h2]
   split at h
   ·rename_i h3; rw [if_pos h3]; exact zKl bs ws 0
   ·simp at h
def zAp (c : Cfg) (bs : List Int) : List Int × Int :=
 if zAh c = false then ([], 4) else if (zBm (List.replicate c.mi.zs.length 21) bs).2 ≠ 0 then ([], 4) else if (zBm (List.replicate c.mi.zs.length 21) bs).1.any bigN then ([], 4) else ((zBm (List.replicate c.mi.zs.length 21) bs).1, 0)
def zGf (c : Cfg) (bs : List Int) (e : Ending) (w w' : World) : Prop :=
 ∃ v : Value, e = .returned (.tuple #[v, .int .i64 (zAp c bs).2]) ∧ w'.ownsRow w.heap.size 3 1 v (zAp c bs).1.length ((zAp c bs).1.map (.int .i64)) ∧ Below w.heap.size w w'
set_option maxRecDepth 100000 in
set_option maxHeartbeats 1600000 in
theorem zSj (c : Cfg) (bA : Option Addr) (bn bc : Nat) (bs : List Int) (B : Nat) (w : World) (hc : c.ok w B) (hbl : bs.length = bn) (hbn : bn ≤ bc) (hbm : bc ≤ maxLen) (hbr : Reads w B 1 bA bn (bs.map (.int .u8))) (hbz : ∀ z ∈ bs, 0 ≤ z ∧ z ≤ 255) (hB : B ≤ w.heap.size) :
    Calls Tryz.prog 86 #[c.val, .slice bA bn bc] w fun e w' => zGf c bs e w w' := by
 have HMY := hide (fun W (hW : Below w.heap.size w W) => zEe c B W (hc.below (hW.mono hB)) (Nat.le_trans hB hW.size))
 have HBR := hide (fun W (hW : Below w.heap.size w W) => ((hbr.below (hW.mono hB)).more (Nat.le_trans hB hW.size)))
 have hbn9 : bn ≤ 9223372036854775807 := by unfold maxLen at hbm; omega
 have hmn := hc.2.1.1
 have hmc := hc.2.1.2.1
 have hmm := hc.2.1.2.2.1
 obtain ⟨br, ⟨lA, ln, lc, ls⟩, tk, ⟨mA, mn, mc, ms⟩, cap⟩ := c
 unfold Cfg.val at HMY ⊢
 dsimp only at HMY hmn hmc hmm ⊢
 have HMN := hide hmn
 have hmnb : mn ≤ 9223372036854775807 := by unfold maxLen at hmm; omega
 obtain ⟨wx, hwx⟩ : ∃ wx, wx = w.alloc (.cells #[.int .i64 br, .slice lA ln lc, .int .i64 tk, .slice mA mn mc, .int .i64 cap] 24) := ⟨_, rfl⟩
 have hbx : Below w.heap.size w wx := by rw [hwx]; exact (Below.refl _ _).alloc (Nat.le_refl _) _
 have hsx : w.heap.size < wx.heap.size := by rw [hwx]; simp
 have hnew := Blk.new w 24 #[.int .i64 br, .slice lA ln lc, .int .i64 tk, .slice mA mn mc, .int .i64 cap]
 rw [← hwx] at hnew
 have c0 : ∀ W, Below wx.heap.size wx W → W.cell? ⟨w.heap.size, 0, none⟩ = some (.int .i64 br) := fun W hW => (Blk.below hnew hW hsx).cell 0
 have c1 : ∀ W, Below wx.heap.size wx W → W.cell? ⟨w.heap.size, 1, none⟩ = some (.slice lA ln lc) := fun W hW => (Blk.below hnew hW hsx).cell 1
 have c2 : ∀ W, Below wx.heap.size wx W → W.cell? ⟨w.heap.size, 2, none⟩ = some (.int .i64 tk) := fun W hW => (Blk.below hnew hW hsx).cell 2
 have c3 : ∀ W, Below wx.heap.size wx W → W.cell? ⟨w.heap.size, 3, none⟩ = some (.slice mA mn mc) := fun W hW => (Blk.below hnew hW hsx).cell 3
 have c4 : ∀ W, Below wx.heap.size wx W → W.cell? ⟨w.heap.size, 4, none⟩ = some (.int .i64 cap) := fun W hW => (Blk.below hnew hW hsx).cell 4
 have hz0 : Below wx.heap.size wx wx := Below.refl _ _
 have HMY' := hide (zAa HMY wx hbx)
 have HBX := hide hbx
 have HWX := hide hwx
 have HBL := hide hbl
 have HBZ := hide hbz
 clear hbx hwx hnew hsx hmn HMY hc hbl hbr hbz
 cases hcf : zAh ⟨br, ⟨lA, ln, lc, ls⟩, tk, ⟨mA, mn, mc, ms⟩, cap⟩ with
 | false =>
  have HG := hide (show zAp ⟨br, ⟨lA, ln, lc, ls⟩, tk, ⟨mA, mn, mc, ms⟩, cap⟩ bs = ([], 4) by unfold zAp; rw [hcf]; rfl)
  rw [hcf] at HMY'
  clear hcf
  go_enter Tryz.func86, Tryz.ntmps86
  go_wp2_with fail
  rw [← zAa HWX]
  refine (zAa HMY').mono ?_
  rintro _ w1 ⟨rfl, hb1⟩
  have HB := hide ((zAa HBX).trans (hb1.mono (zAa HBX).size))
  clear hb1
  go_wp2_with fail
  go_ret2
  unfold zGf
  rw [zAa HG]
  exact ⟨_, rfl, World.ownsRow_nil _ _ _ _, zAa HB⟩
 | true =>
  rw [hcf] at HMY'
  have hn3 : 1 ≤ mn ∧ mn ≤ 3 := by
   have h := hcf
   simp [zAh, inB] at h
   have h2 := zAa HMN
   omega
  obtain ⟨hn1, hn3⟩ := hn3
  have HQ := hide (show zAp ⟨br, ⟨lA, ln, lc, ls⟩, tk, ⟨mA, mn, mc, ms⟩, cap⟩ bs = (if (zBm (List.replicate mn 21) bs).2 ≠ 0 then ([], 4) else if (zBm (List.replicate mn 21) bs).1.any bigN then ([], 4) else ((zBm (List.replicate mn 21) bs).1, 0)) by unfold zAp; rw [hcf]; dsimp only; rw [if_neg (by simp), zAa HMN])
  clear hcf
  obtain ⟨R, hR⟩ : ∃ R, zAp ⟨br, ⟨lA, ln, lc, ls⟩, tk, ⟨mA, mn, mc, ms⟩, cap⟩ bs = R := ⟨_, rfl⟩
  rw [hR] at HQ
  have HRR := hide hR
  clear hR
  go_enter Tryz.func86, Tryz.ntmps86
  go_wp2_with fail
  rw [← zAa HWX]
  refine (zAa HMY').mono ?_
  rintro _ w1 ⟨rfl, hb1⟩
  have hz1 : Below wx.heap.size wx w1 := hb1
  have HB1 := hide ((zAa HBX).trans (hb1.mono (zAa HBX).size))
  obtain ⟨wy, hwy⟩ : ∃ wy, wy = w1.alloc (.cells #[.int .i64 21] 3) := ⟨_, rfl⟩
  have hby : Below w1.heap.size w1 wy := by rw [hwy]; exact (Below.refl _ _).alloc (Nat.le_refl _) _
  have hsy : w1.heap.size < wy.heap.size := by rw [hwy]; simp
  have hzy : Below wx.heap.size wx (w1.alloc (.cells #[.int .i64 21] 3)) := by rw [← hwy]; exact hz1.trans (hby.mono hz1.size)
  have hcy := (Blk.new w1 3 #[.int .i64 21]).cell 0
  have c3y := c3 _ hzy
  have HRP := hide (zMd 21 mn w1.heap.size 1 wy hn1 (by omega) hsy (by rw [hwy]; exact hcy))
  have HBY := hide ((zAa HB1).trans (hby.mono (zAa HB1).size))
  have HWY := hide hwy
  clear hb1 hby hwy hsy hcy
  go_wp2_with fail
  rw [← zAa HWY]
  refine (zAa HRP).mono ?_
  rintro _ w2 ⟨u, rfl, hou, hb2⟩
  obtain ⟨uA, uc, rfl, huc⟩ := zAf hou
  have HB2 := hide ((zAa HBY).trans (hb2.mono (zAa HBY).size))
  have HUP := hide (zLk uA mn uc (List.replicate mn 21) bA bn bc bs w2 (by simp) (by omega) (Reads.of_own hou) (zAa HBL) hbn9 hbn (zAa HBR w2 (zAa HB2)) (zAa HBZ))
  clear hou hb2
  go_wp2_with fail
  refine (zAa HUP).mono ?_
  rintro _ w3 ⟨v, rfl, ho3, hb3⟩
  have HLEN := hide (zOh (List.replicate mn 21) bs)
  rw [List.length_replicate] at HLEN
  generalize zBm (List.replicate mn 21) bs = U at *
  obtain ⟨us, ue⟩ := U
  dsimp only at *
  have HB3 := hide ((zAa HB2).trans (hb3.mono (zAa HB2).size))
  have HS2 := hide (zAa HB2).size
  obtain ⟨vA, vc, rfl, hvc⟩ := zAf ho3
  by_cases hue : ue = 0
  rotate_left
  ·have e1 : (ue != 0) = true := by simp [hue]
   have HG := hide (show R = ([], 4) by rw [zAa HQ, if_pos hue])
   clear ho3 hb3
   go_wp2_with fail
   go_ret2
   unfold zGf
   rw [zAa HRR, zAa HG]
   exact ⟨_, rfl, World.ownsRow_nil _ _ _ _, zAa HB3⟩
  subst hue
  have hlen : us.length = mn := zAa HLEN rfl
  rw [hlen] at ho3
  have HMX := hide (max_any vA mn vc us _ w3 hlen (by omega) (by omega) (Reads.of_own ho3))
  have HO3 := hide ho3
  clear ho3 hb3
  go_wp2_with fail
  refine (zAa HMX).mono ?_
  rintro _ _ ⟨m, rfl, HBG, rfl⟩
  by_cases hbg : 1048576 < m
  ·have HG := hide (show R = ([], 4) by rw [zAa HQ, if_neg (by simp), ← zAa HBG, if_pos (by unfold bigN; simp [hbg])])
   go_wp2_with fail
   go_ret2
   unfold zGf
   rw [zAa HRR, zAa HG]
   exact ⟨_, rfl, World.ownsRow_nil _ _ _ _, zAa HB3⟩
  ·have HG := hide (show R = (us, 0) by rw [zAa HQ, if_neg (by simp), ← zAa HBG, if_neg (by unfold bigN; simp; omega)])
   have hbg2 : m ≤ 1048576 := by omega
   go_wp2_with fail
   go_ret2
   unfold zGf
   rw [zAa HRR, zAa HG]
   refine ⟨_, rfl, ?_, zAa HB3⟩
   dsimp only
   rw [hlen]
   exact World.ownsRow.mono (zAa HO3) (zAa HS2)
end
section
open Go.RowKit Go.ChangeShapes Go.WideShapes Go.Deep
theorem zYb (c : Cfg) (a b : Int) (bs : List Int) : ∀ l ∈ (zBv c a b bs).1, l.length ≤ 8 := by
 intro l hl
 unfold zBv at hl
 split at hl
 ·cases hl
 split at hl
 ·cases hl
 split at hl
 ·cases hl
 split at hl
 ·dsimp only at hl
  obtain ⟨i, hi⟩ := List.mem_iff_getElem?.1 hl
  obtain ⟨is, his⟩ : ∃ is, is = zAn a.toNat b.toNat c.la.zs 0 := ⟨_, rfl⟩
  rw [← his] at hi
  have hnd : is.Nodup := by rw [his]; exact zHr _ _ _ _
  have hlt : ∀ i ∈ is, i < c.la.zs.length := fun i hi => by
   rw [his] at hi
   have := zGk _ _ _ _ i hi
   omega
  obtain ⟨h1, h2⟩ := zKi bs is c.la.zs.length is.length rfl hnd hlt (8 * is.length) (Nat.le_refl _)
  have hg : (zCl bs is c.la.zs.length (8 * is.length)).getD i [] = l := by rw [List.getD_eq_getElem?_getD, hi]; rfl
  by_cases hin : i ∈ is
  ·obtain ⟨p, hp⟩ := List.mem_iff_getElem?.1 hin
   rw [← hg, h1 p i hp]
   exact Nat.le_trans (zKn _ _ _) (Nat.min_le_left _ _)
  ·rw [← hg, h2 i hin]; simp
 ·cases hl
end
end Go.Proofs.YtbolcebmbpepdaaGreatDoor
