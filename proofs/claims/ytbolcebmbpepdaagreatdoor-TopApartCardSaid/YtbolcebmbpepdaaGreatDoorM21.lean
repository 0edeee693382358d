/- Contracts and plain facts, set together by program out of smaller texts. Conditions: none beyond what each theorem states. -/
import Derived.Test.YtbolcebmbpepdaaGreatDoorProg
import Derived.BigQuiet
import Derived.Deep.Onto
import Derived.Test.YtbolcebmbpepdaaGreatDoorM13
import Derived.Test.YtbolcebmbpepdaaGreatDoorM03
import Derived.Test.YtbolcebmbpepdaaGreatDoorM05
import Derived.Test.YtbolcebmbpepdaaGreatDoorM02
import Derived.Test.YtbolcebmbpepdaaGreatDoorM01
namespace Go.Proofs.YtbolcebmbpepdaaGreatDoor
set_option linter.unusedVariables false
section
open Go.RowKit
theorem yEi : (Tryz.prog.info? 179).map (fun i => (i.zero, i.size, i.bytes)) = some (some (.agg #[.int .i64 0, .int .i64 0]), 2, 16) := by kernel_rfl
theorem fld_info : ∃ i, Tryz.prog.info? 179 = some i ∧ i.zero = some (.agg #[.int .i64 0, .int .i64 0]) ∧ i.size = 2 ∧ i.bytes = 16 := by
 have h := yEi
 cases hi : Tryz.prog.info? 179 with
 | none => rw [hi] at h; simp at h
 | some i => rw [hi] at h; simp at h; exact ⟨i, rfl, h.1, h.2.1, h.2.2⟩
def zCa (c : Cfg) (zs : List Int) : List Int × Int :=
 if zAh c = false then ([], 4) else if zs.length ≠ c.mi.zs.length then ([], 1) else if zs.any badN then ([], 12) else zEh (zs.map fun z => (21, z))
def zHa (c : Cfg) (zs : List Int) (e : Ending) (w w' : World) : Prop :=
 ∃ v : Value, e = .returned (.tuple #[v, .int .i64 (zCa c zs).2]) ∧ w'.ownsRow w.heap.size 5 1 v (zCa c zs).1.length ((zCa c zs).1.map (.int .u8)) ∧ Below w.heap.size w w'
set_option maxRecDepth 100000 in
set_option maxHeartbeats 1600000 in
theorem zVa (c : Cfg) (r : IRw) (B : Nat) (w : World) (hc : c.ok w B) (hr : r.ok w B) (hB : B ≤ w.heap.size) :
    Calls Tryz.prog 80 #[c.val, .slice r.A r.n r.c] w fun e w' => zHa c r.zs e w w' := by
 obtain ⟨wA, wn, wc, zs⟩ := r
 obtain ⟨q1, q2, q3, q4⟩ := hr
 dsimp only at q1 q2 q3 q4 ⊢
 have HMY := hide (fun W (hW : Below w.heap.size w W) => zEe c B W (hc.below (hW.mono hB)) (Nat.le_trans hB hW.size))
 have hmn := hc.2.1.1
 have hmc := hc.2.1.2.1
 have hmm := hc.2.1.2.2.1
 obtain ⟨br, ⟨lA, ln, lc, ls⟩, tk, ⟨mA, mn, mc, ms⟩, cap⟩ := c
 unfold Cfg.val at HMY ⊢
 dsimp only at HMY hmn hmc hmm ⊢
 have HMN := hide hmn
 have HZL := hide q1
 have HR := hide (q4.more hB)
 have hmnb : mn ≤ 9223372036854775807 := by unfold maxLen at hmm; omega
 have hwnb : wn ≤ 9223372036854775807 := by unfold maxLen at q3; omega
 obtain ⟨wx, hwx⟩ : ∃ wx, wx = w.alloc (.cells #[.int .i64 br, .slice lA ln lc, .int .i64 tk, .slice mA mn mc, .int .i64 cap] 24) := ⟨_, rfl⟩
 have hbx : Below w.heap.size w wx := by rw [hwx]; exact (Below.refl _ _).alloc (Nat.le_refl _) _
 have hsx : w.heap.size < wx.heap.size := by rw [hwx]; simp
 have hnew := Blk.new w 24 #[.int .i64 br, .slice lA ln lc, .int .i64 tk, .slice mA mn mc, .int .i64 cap]
 rw [← hwx] at hnew
 have c0 : ∀ W, Below wx.heap.size wx W → W.cell? ⟨w.heap.size, 0, none⟩ = some (.int .i64 br) := fun W hW => (Blk.below hnew hW hsx).cell 0
 have c1 : ∀ W, Below wx.heap.size wx W → W.cell? ⟨w.heap.size, 1, none⟩ = some (.slice lA ln lc) := fun W hW => (Blk.below hnew hW hsx).cell 1
 have c2 : ∀ W, Below wx.heap.size wx W → W.cell? ⟨w.heap.size, 2, none⟩ = some (.int .i64 tk) := fun W hW => (Blk.below hnew hW hsx).cell 2
 have c3 : ∀ W, Below wx.heap.size wx W → W.cell? ⟨w.heap.size, 3, none⟩ = some (.slice mA mn mc) := fun W hW => (Blk.below hnew hW hsx).cell 3
 have c4 : ∀ W, Below wx.heap.size wx W → W.cell? ⟨w.heap.size, 4, none⟩ = some (.int .i64 cap) := fun W hW => (Blk.below hnew hW hsx).cell 4
 have hz0 : Below wx.heap.size wx wx := Below.refl _ _
 have HMY' := hide (zAa HMY wx hbx)
 have HBX := hide hbx
 have HWX := hide hwx
 clear hbx hwx hnew hsx q1 q4 hmn HMY hc
 obtain ⟨iF, hiF, hzF0, hzF1, hzF2⟩ := fld_info
 cases hcf : zAh ⟨br, ⟨lA, ln, lc, ls⟩, tk, ⟨mA, mn, mc, ms⟩, cap⟩ with
 | false =>
  have HG := hide (show zCa ⟨br, ⟨lA, ln, lc, ls⟩, tk, ⟨mA, mn, mc, ms⟩, cap⟩ zs = ([], 4) by unfold zCa; rw [hcf]; rfl)
  rw [hcf] at HMY'
  clear hcf
  go_enter Tryz.func80, Tryz.ntmps80
  go_wp2_with fail
  rw [← zAa HWX]
  refine (zAa HMY').mono ?_
  rintro _ w1 ⟨rfl, hb1⟩
  have HB := hide ((zAa HBX).trans (hb1.mono (zAa HBX).size))
  clear hb1
  go_wp2_with fail
  go_ret2
  unfold zHa
  rw [zAa HG]
  exact ⟨_, rfl, World.ownsRow_nil _ _ _ _, zAa HB⟩
 | true =>
  rw [hcf] at HMY'
  have HCF := hide hcf
  clear hcf
  by_cases he : wn = mn
  rotate_left
  ·have HG := hide (show zCa ⟨br, ⟨lA, ln, lc, ls⟩, tk, ⟨mA, mn, mc, ms⟩, cap⟩ zs = ([], 1) by unfold zCa; rw [zAa HCF]; dsimp only; rw [if_neg (by simp), if_pos (by rw [zAa HZL, zAa HMN]; exact he)])
   have e1 : (((wn : Nat) : Int) != (mn : Nat)) = true := by simp; omega
   have e2 : (wn != mn) = true := by simp; omega
   clear he
   go_enter Tryz.func80, Tryz.ntmps80
   go_wp2_with fail
   rw [← zAa HWX]
   refine (zAa HMY').mono ?_
   rintro _ w1 ⟨rfl, hb1⟩
   have hz1 : Below wx.heap.size wx w1 := hb1
   have HB := hide ((zAa HBX).trans (hb1.mono (zAa HBX).size))
   clear hb1
   go_wp2_with fail
   go_ret2
   unfold zHa
   rw [zAa HG]
   exact ⟨_, rfl, World.ownsRow_nil _ _ _ _, zAa HB⟩
  obtain rfl : wn = mn := he
  have hn3 : wn ≤ 3 := by
   have h := zAa HCF
   simp [zAh, inB] at h
   have h2 := zAa HMN
   omega
  have HQ := hide (show zCa ⟨br, ⟨lA, ln, lc, ls⟩, tk, ⟨mA, wn, mc, ms⟩, cap⟩ zs = (if zs.any badN then ([], 12) else zEh (zs.map fun z => (21, z))) by unfold zCa; rw [zAa HCF]; dsimp only; rw [if_neg (by simp), if_neg (by rw [zAa HZL, zAa HMN]; simp)])
  obtain ⟨R, hR⟩ : ∃ R, zCa ⟨br, ⟨lA, ln, lc, ls⟩, tk, ⟨mA, wn, mc, ms⟩, cap⟩ zs = R := ⟨_, rfl⟩
  rw [hR] at HQ
  have HRR := hide hR
  clear hR
  go_enter Tryz.func80, Tryz.ntmps80
  go_wp2_with fail
  rw [← zAa HWX]
  refine (zAa HMY').mono ?_
  rintro _ w1 ⟨rfl, hb1⟩
  have hz1 : Below wx.heap.size wx w1 := hb1
  have HB1 := hide ((zAa HBX).trans (hb1.mono (zAa HBX).size))
  clear hb1
  go_wp2_with fail
  go_loopw [6, 20] (fun v i wr => ∃ (k : Nat), k ≤ wn ∧ i = .int .i64 k ∧ wr.ownsRow w.heap.size 179 2 v k (((zs.take k).map fun z => ((21 : Int), z)).flatMap zIf) ∧ Below w.heap.size w wr ∧ Hid ((zs.drop k).any badN = zs.any badN)) (fun _ i _ => wn - (intOf i).toNat)
  case atStart => exact ⟨0, Nat.zero_le _, rfl, World.ownsRow_nil _ _ _ _, zAa HB1, rfl⟩
  case round =>
   obtain ⟨k, hk, rfl, hown, hb, HX⟩ := hrel
   by_cases hlt : k < wn
   ·obtain ⟨b1, o1, z, rfl, hbl, hz, hcz⟩ := zDd ((zAa HR).below hb) hlt
    have HX2 := hide (by have h := zAa HX; rw [zCb zs k z hz, List.any_cons] at h; exact h)
    have HTK := hide (zBp zs k z hz)
    have hsz := hb.size
    have HB := hide hb
    have HO := hide hown
    have hmb : (k + 1) * 16 ≤ 140737488355328 := by omega
    clear HX hz hb hown hz1 hz0
    have HIN := hide (zFl z 0 1048576)
    cases hin : inB z 0 1048576 with
    | false =>
     have HG := hide (show R = ([], 12) by rw [zAa HQ, ← zAa HX2, show badN z = true by unfold inB at hin; unfold badN; simp at hin ⊢; omega]; rfl)
     rw [hin] at HIN
     clear hin HX2
     go_wp2_with fail
     refine (zAa HIN _).mono ?_
     rintro _ _ ⟨rfl, rfl⟩
     go_wp2_with fail
     go_ret2
     unfold zHa
     rw [zAa HRR, zAa HG]
     exact ⟨_, rfl, World.ownsRow_nil _ _ _ _, zAa HB⟩
    | true =>
     have HX3 := hide (show (zs.drop (k + 1)).any badN = zs.any badN by rw [← zAa HX2, show badN z = false by unfold inB at hin; unfold badN; simp at hin ⊢; omega]; rfl)
     rw [hin] at HIN
     clear hin HX2
     go_wp2_with fail
     refine (zAa HIN _).mono ?_
     rintro _ _ ⟨rfl, rfl⟩
     go_wp2_with (first
      | (at_builtin; (refine zAl _ rfl (.tmp 27) (.tmp 30) _ rfl w.heap.size 179 iF _ 2 16 Tryz.underlying177 hiF hzF0 hzF1 hzF2 rfl (by omega) (by omega) _ _ _ (zAa HO) rfl _ 1 _ rfl rfl rfl (by simp [Value.oneCell']) hmb (by omega) ?_); intro g cap w4 hg4 hown4 hbel4 _ _))
     go_roundw
     case rel =>
      refine ⟨k + 1, by omega, by go_num, ?_, hbel4 _ _ (Nat.le_refl _) (zAa HB), zAa HX3⟩
      rw [zAa HTK, List.map_append, List.flatMap_append]
      exact hown4
     case measure => simp [intOf]; omega
   ·obtain rfl : k = wn := by omega
    have HF := hide (show R = zEh (zs.map fun z => (21, z)) by
     have h := zAa HX
     rw [List.drop_of_length_le (by rw [zAa HZL]; exact Nat.le_refl _)] at h
     rw [zAa HQ, ← h]; rfl)
    have hown2 := hown
    rw [List.take_of_length_le (by rw [zAa HZL]; exact Nat.le_refl _)] at hown2
    obtain ⟨A5, c5, hv5, hc5⟩ := zAf hown2
    subst hv5
    have HPK := hide (zNe A5 k c5 (zs.map fun z => (21, z)) wr (by rw [List.length_map]; exact zAa HZL) (by omega) (Reads.of_own hown2))
    have HB := hide hb
    clear HX hown hown2 hb hz1 hz0
    go_wp2_with fail
    refine (zAa HPK).mono ?_
    rintro _ w5 ⟨v5, rfl, hown5, hb5⟩
    have HO5 := hide hown5
    have HB5 := hide ((zAa HB).trans (hb5.mono (zAa HB).size))
    have HBS := hide (zAa HB).size
    clear hown5 hb5
    go_wp2_with fail
    go_ret2
    unfold zHa
    rw [zAa HRR, zAa HF]
    exact ⟨_, rfl, World.ownsRow.mono (zAa HO5) (zAa HBS), zAa HB5⟩
end
end Go.Proofs.YtbolcebmbpepdaaGreatDoor
