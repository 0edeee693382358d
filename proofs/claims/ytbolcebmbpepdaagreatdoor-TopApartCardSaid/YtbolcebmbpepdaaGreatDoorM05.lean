/- Contracts and plain facts, set together by program out of smaller texts. Conditions: none beyond what each theorem states. -/
import Derived.StillTailTactics
import Derived.BigQuiet
import Derived.Test.YtbolcebmbpepdaaGreatDoorProg
import Derived.Test.YtbolcebmbpepdaaGreatDoorM04
import Derived.Test.YtbolcebmbpepdaaGreatDoorM03
namespace Go.Proofs.YtbolcebmbpepdaaGreatDoor
set_option linter.unusedVariables false
section
open Go.RowKit
def Packed (W : World) (v : Value) (w : World) (bs : List Int) : Prop := w.ownsRow W.heap.size 5 1 v bs.length (bs.map (.int .u8)) ∧ Below W.heap.size W w
def PackPost (fs : List (Int × Int)) (W : World) (e : Ending) (w : World) : Prop := ∃ v, e = .returned (.tuple #[v, .int .i64 (zEh fs).2]) ∧ Packed W v w (zEh fs).1
set_option maxHeartbeats 800000 in
set_option maxRecDepth 100000 in
theorem zNe (A : Option Addr) (n c : Nat) (fs : List (Int × Int)) (w : World) (hl : fs.length = n) (hm : n * 16 ≤ 140737488351232) (hr : Reads w w.heap.size 2 A n (fs.flatMap zIf)) :
    Calls Tryz.prog 103 #[.slice A n c] w (PackPost fs w) := by
 obtain ⟨i0, hi, hz0, hz1, hz2⟩ := info_parts zWi
 have HR := hide hr
 clear hr
 have HL := hide hl
 clear hl
 go_enter Tryz.func103, Tryz.ntmps103
 go_wp2_with fail
 go_loopw [4, 15] (fun v i wr => ∃ (k : Nat), k ≤ n ∧ i = .int .i64 k ∧ wr.ownsRow w.heap.size 3 1 v k (zLe fs k) ∧ Below w.heap.size w wr) (fun _ i _ => n - (intOf i).toNat)
 case atStart => exact ⟨0, Nat.zero_le _, rfl, World.ownsRow_nil _ _ _ _, Below.refl _ _⟩
 case round =>
  obtain ⟨k, hk, rfl, hown, hb⟩ := hrel
  by_cases hlt : k < n
  ·obtain ⟨b, o, f, rfl, hab, hf, hc⟩ := zCf zNd (by omega) ((zAa HR).below hb) hlt (zAa HL)
   have c0 : wr.cell? ⟨b, o + k * 2, none⟩ = some (.int .i64 f.1) := hc 0 _ rfl
   have c1 : wr.cell? ⟨b, o + k * 2 + 1, none⟩ = some (.int .i64 f.2) := hc 1 _ rfl
   have HF := hide hf
   clear hc hf
   have hsz := hb.size
   go_wp2_with (first
    | (at_builtin; (refine zAl _ rfl (.tmp 19) (.tmp 22) _ rfl w.heap.size 3 i0 _ 1 8 Tryz.underlying22 hi hz0 hz1 hz2 rfl (by omega) (by omega) _ _ _ (hown.alloc _) rfl _ 1 _ rfl (by simp) rfl (by simp [Value.oneCell']) (by omega) (by omega) ?_); intro g cap w1 hg hown1 hbel1 _ _))
   go_roundw
   case rel => exact ⟨k + 1, by omega, by go_num, by rw [zXn fs k f (zAa HF)]; exact hown1, hbel1 _ _ (Nat.le_refl _) (hb.alloc hsz _)⟩
   case measure => simp [intOf]; omega
  ·obtain rfl : k = n := by omega
   obtain ⟨Aw, cw, rfl, hcw⟩ := zAf hown
   have hrw : Reads wr wr.heap.size 1 Aw k ((fs.map (·.1)).map (Value.int .i64)) := by
    rw [← yBm fs, zAa HL]
    exact Reads.of_own hown
   have HC := hide (zNj Aw k cw (fs.map (·.1)) _ wr (by rw [List.length_map]; exact zAa HL) (by omega) hrw)
   clear hrw
   have HW := hide (And.intro hown hb)
   have hsz := hb.size
   clear hown hb
   rcases zOl (fs.map (·.1)) with hs | hs | ⟨N, hs, h40, hw60, hN⟩
   ·have HC2 := hide (by have h := zAa HC; rw [hs] at h; exact h)
    have HP := hide (show zEh fs = ([], 1) by unfold zEh; rw [hs]; rfl)
    clear HC hs
    go_wp2_with fail
    refine (zAa HC2).mono ?_
    rintro e w' ⟨rfl, rfl⟩
    go_wp2_with fail
    go_ret2
    exact ⟨_, by rw [zAa HP]; rfl, by rw [zAa HP]; exact ⟨World.ownsRow_nil _ _ _ _, (zAa HW).2⟩⟩
   ·have HC2 := hide (by have h := zAa HC; rw [hs] at h; exact h)
    have HP := hide (show zEh fs = ([], 2) by unfold zEh; rw [hs]; rfl)
    clear HC hs
    go_wp2_with fail
    refine (zAa HC2).mono ?_
    rintro e w' ⟨rfl, rfl⟩
    go_wp2_with fail
    go_ret2
    exact ⟨_, by rw [zAa HP]; rfl, by rw [zAa HP]; exact ⟨World.ownsRow_nil _ _ _ _, (zAa HW).2⟩⟩
   ·have HC2 := hide (by have h := zAa HC; rw [hs] at h; exact h)
    have HP := hide (show zEh fs = if fs.all zGs then (bytesOf (zAw fs) N, 0) else ([], 12) by unfold zEh; rw [hs]; simp)
    rw [← zOp] at hN
    have hN2 : 8 * N ≤ (zAw fs).length + 7 := by omega
    have hN3 : (zAw fs).length ≤ 8 * N := by omega
    have hk40 : k ≤ 40 := by rw [List.length_map, zAa HL] at h40; exact h40
    have hN4 : N ≤ 300 := by
     have := sum_le (fs.map (·.1)) hw60
     rw [← zOp] at this
     omega
    have HW60 := hide hw60
    clear HC hs hN h40 hw60
    obtain ⟨i8, hi8, hz80, hz81, hz82⟩ := info_parts info_u8
    have hmk := fun W => zDn (P := Tryz.prog) 55 5 i8 _ Tryz.underlying55 hi8 hz80 .i64 .i64 N N (Nat.le_refl _) (by rw [hz82]; omega) (by omega) W
    rw [hz81] at hmk
    go_wp2_with fail
    refine (zAa HC2).mono ?_
    rintro e w' ⟨rfl, rfl⟩
    go_wp2_with fail
    obtain ⟨wo, rfl⟩ : ∃ wo : World, wo = wr := ⟨_, rfl⟩
    go_loopw [39] (fun i wx => ∃ (j : Nat), j ≤ k ∧ i = .int .i64 j ∧ PackAt w wx (wo.heap.size + 1) wo.heap.size N (zAw (fs.take j)) ∧ Hid ((fs.take j).all zGs = true)) (fun i _ => k - (intOf i).toNat)
    case atStart =>
     refine ⟨0, Nat.zero_le _, rfl, ⟨?_, hsz, rfl, ?_, ?_⟩, rfl⟩
     ·exact (((zAa HW).2.alloc hsz _).alloc (by simp; omega) _)
     ·have := Blk.new (wo.alloc (.cells (madeCells #[.int .u8 0] N) 5)) 208 #[.slice (some ⟨wo.heap.size, 0, none⟩) N N, .int .i64 0]
      simpa [zAw] using this
     ·have := (Blk.new wo 5 (madeCells #[.int .u8 0] N)).alloc (.cells #[.slice (some ⟨wo.heap.size, 0, none⟩) N N, .int .i64 0] 208)
      have e : ((bytesOf (zAw (fs.take 0)) N).map (Value.int .u8)).toArray = madeCells #[.int .u8 0] N := by
       rw [← Array.toList_inj, toList_madeCells_one]
       simp [zAw, zXf]
      rw [e]
      exact this
    case round =>
     obtain ⟨j, hj, rfl, HA, HO⟩ := hrel
     have HA' := hide HA
     by_cases hlt2 : j < k
     ·obtain ⟨b, o, f, rfl, hab, hf, hc⟩ := zCf zNd (by omega) ((zAa HR).below HA.1) hlt2 (zAa HL)
      obtain ⟨wd, v⟩ := f
      have hwd := zAa HW60 wd (List.mem_map.2 ⟨_, List.mem_of_getElem? hf, rfl⟩)
      obtain ⟨wd, rfl⟩ := Int.eq_ofNat_of_zero_le (show 0 ≤ wd by omega)
      have hwd1 : 1 ≤ wd := by omega
      have hwd2 : wd ≤ 60 := by omega
      have c0 : wr.cell? ⟨b, o + j * 2, none⟩ = some (.int .i64 wd) := hc 0 _ rfl
      have c1 : wr.cell? ⟨b, o + j * 2 + 1, none⟩ = some (.int .i64 v) := hc 1 _ rfl
      have HF := hide hf
      have hlenj := zQe fs (j + 1)
      rw [zNq fs j _ hf, List.length_append, zFv] at hlenj
      simp only [Int.toNat_natCast] at hlenj
      have HLJ := hide hlenj
      have hszx := HA.1.size
      clear hc hf hwd HA hlenj
      have HNO : zGs ((wd : Int), v) = false → Hid (zEh fs = ([], 12)) := by
       intro hno
       have : fs.all zGs = false := by
        rw [List.all_eq_false]
        exact ⟨_, List.mem_of_getElem? (zAa HF), by rw [hno]; simp⟩
       exact hide (by rw [zAa HP, this]; rfl)
      by_cases hv0 : v < 0
      ·have HQ := HNO (by simp [zGs]; omega)
       clear HNO
       go_wp2_with fail
       go_ret2
       exact ⟨_, by rw [zAa HQ]; rfl, by rw [zAa HQ]; exact ⟨World.ownsRow_nil _ _ _ _, (zAa HA').1.alloc hszx _⟩⟩
      ·obtain ⟨v, rfl⟩ := Int.eq_ofNat_of_zero_le (show 0 ≤ v by omega)
       clear hv0
       by_cases hfit : v < 2 ^ wd
       ·have hdiv : (v : Int) / 2 ^ wd = 0 := by
         have : ((v / 2 ^ wd : Nat) : Int) = 0 := by rw [Nat.div_eq_of_lt hfit]; rfl
         simpa using this
        clear HNO
        have HFIT := hide hfit
        clear hfit
        go_wp2_with fail
        obtain ⟨wz, rfl⟩ : ∃ wz : World, wz = wr := ⟨_, rfl⟩
        have hv9 : v ≤ 9223372036854775807 := by have := zQr hwd2; have := zAa HFIT; omega
        have hF : wo.heap.size + 1 < wz.heap.size := (zAa HA').2.2.2.1.lt
        go_loopw [12] (fun q wy => ∃ (t : Nat), t ≤ wd ∧ q = .int .i64 ((wd : Int) - 1 - (t : Int)) ∧ PackAt w wy (wo.heap.size + 1) wo.heap.size N (zAw (fs.take j) ++ (zCg ((wd : Int), (v : Int))).take t) ∧
            Blk wy wz.heap.size 179 #[.int .i64 wd, .int .i64 v]) (fun q _ => (intOf q + 1).toNat)
        case atStart => exact ⟨0, Nat.zero_le _, by simp, by simpa using (zAa HA').alloc _, Blk.new wz _ _⟩
        case round =>
         obtain ⟨t, ht, rfl, HPA, HB⟩ := hrel
         by_cases htl : t < wd
         ·have hbl : (zAw (fs.take j) ++ (zCg ((wd : Int), (v : Int))).take t).length = (zAw (fs.take j)).length + t := by
           rw [List.length_append, List.length_take, zFv]; simp; omega
          have hle : ∀ b ∈ zAw (fs.take j) ++ (zCg ((wd : Int), (v : Int))).take t, b ≤ 1 := by
           intro b hb
           rcases List.mem_append.1 hb with hb | hb
           ·exact zJh _ b hb
           ·exact zNs _ b (List.mem_of_mem_take hb)
          have HPUT := hide (zWw w wr (wo.heap.size + 1) wo.heap.size N (v / 2 ^ (wd - 1 - t) % 2) _ HPA (by have := zAa HLJ; omega) (by have := zAa HLJ; omega) (by omega) hle)
          rw [List.append_assoc, ← zRl wd v t htl] at HPUT
          have b0 : wr.cell? ⟨wz.heap.size, 1, none⟩ = some (.int .i64 v) := by rw [HB.cell]; rfl
          have hbit := shr_and1 v (wd - 1 - t) hv9
          have HBH := hide HB
          clear hbl hle HPA HB
          go_wp2_with fail
          refine (zAa HPUT).mono ?_
          rintro e w1 ⟨rfl, HP1, HB2⟩
          have HBN := hide (HB2.blk (zAa HBH) (by omega) (by omega))
          have HPN := hide HP1
          clear HP1 HB2
          go_wp2_with fail
          go_roundw
          case rel => exact ⟨t + 1, by omega, by go_num, zAa HPN, zAa HBN⟩
          case measure => simp [intOf]; omega
         ·obtain rfl : t = wd := by omega
          have HPN := hide HPA
          clear HPA HB
          go_wp2_with fail
          go_roundw
          case rel =>
           refine ⟨j + 1, by omega, by go_num, ?_, ?_⟩
           ·have h := zAa HPN
            have htk : (zCg ((t : Int), (v : Int))).take t = zCg ((t : Int), (v : Int)) := List.take_of_length_le (by rw [zFv]; simp)
            rw [htk, ← zNq fs j _ (zAa HF)] at h
            exact h
           ·show (fs.take (j + 1)).all zGs = true
            rw [zBp fs j _ (zAa HF), List.all_append, zAa HO]
            have := zAa HFIT
            simp only [List.all_cons, List.all_nil, Bool.and_true, Bool.true_and, zGs, Int.toNat_natCast, decide_eq_true_eq]
            exact ⟨by omega, by exact_mod_cast this⟩
          case measure => simp [intOf]; omega
       ·have HQ := HNO (by simp only [zGs, Int.toNat_natCast, decide_eq_false_iff_not]; intro h; exact hfit (by have := h.2; exact_mod_cast this))
        have hdiv : (0 : Int) < (v : Int) / 2 ^ wd := by
         have h1 : 0 < v / 2 ^ wd := Nat.div_pos (by omega) (Nat.pow_pos (by omega))
         have : (0 : Int) < ((v / 2 ^ wd : Nat) : Int) := by omega
         simpa using this
        clear HNO hfit
        go_wp2_with fail
        go_ret2
        exact ⟨_, by rw [zAa HQ]; rfl, by rw [zAa HQ]; exact ⟨World.ownsRow_nil _ _ _ _, (zAa HA').1.alloc hszx _⟩⟩
     ·obtain rfl : j = k := by omega
      have hall : fs.take j = fs := List.take_of_length_le (by rw [zAa HL]; exact Nat.le_refl _)
      have HQ := hide (show zEh fs = (bytesOf (zAw fs) N, 0) by rw [zAa HP]; have h := zAa HO; rw [hall] at h; rw [h]; rfl)
      rw [hall] at HA HA'
      clear hall
      have d0 : wr.cell? ⟨wo.heap.size + 1, 0, none⟩ = some (.slice (some ⟨wo.heap.size, 0, none⟩) N N) := by rw [HA.2.2.2.1.cell]; rfl
      clear HA
      go_wp2_with fail
      go_ret2
      refine ⟨_, by rw [zAa HQ]; rfl, ?_⟩
      rw [zAa HQ]
      obtain ⟨g1, g2, _, g4, g5⟩ := zAa HA'
      refine ⟨⟨by simp [bytesOf], .inr ⟨wo.heap.size, N, _, by simp [bytesOf], g2, g5, by simp [bytesOf], by unfold maxLen; omega, by simp [bytesOf], by simp only [bytesOf, List.length_map, List.length_range, Nat.mul_one]; exact List.take_of_length_le (by simp)⟩⟩, g1⟩
end
section
open Go.RowKit
theorem zYr {w : World} {base : Nat} {e : TypeId} {size n : Nat} {v : Value} {xs : List Value} {g : Nat} {t : TypeId} {cs : Array Value} (h : w.ownsRow base e size v n xs) (hg : Blk w g t cs) (hne : e ≠ t) : some g ≠ v.ownBlock :=
 fun he => zAe h hg hne he.symm
end
section
open Go.RowKit
def fv (f : Nat → Nat) (s : Nat) : Nat → Nat
 | 0 => 0
 | k + 1 => 2 * fv f s k + f (s + k)
theorem fv_lt (f : Nat → Nat) (hf : ∀ k, f k ≤ 1) (s k : Nat) : fv f s k < 2 ^ k := by
 induction k with
 | zero => simp [fv]
 | succ k ih => rw [fv, Nat.pow_succ]; have := hf (s + k); omega
theorem fv_bit (f : Nat → Nat) (hf : ∀ k, f k ≤ 1) (s w j : Nat) (hj : j < w) : fv f s w / 2 ^ (w - 1 - j) % 2 = f (s + j) := by
 induction w with
 | zero => omega
 | succ w ih =>
  rw [fv]
  have hb := hf (s + w)
  by_cases e : j = w
  ·subst e
   simp
   omega
  ·rw [show w + 1 - 1 - j = (w - 1 - j) + 1 by omega, Nat.pow_succ, Nat.mul_comm (2 ^ (w - 1 - j)) 2, ← Nat.div_div_eq_div_mul, show (2 * fv f s w + f (s + w)) / 2 = fv f s w by omega]
   exact ih (by omega)
theorem zZk (bs : List Nat) (s k : Nat) : zCs bs s k = fv (fun j => bs.getD j 0) s k := by
 induction k with
 | zero => rfl
 | succ k ih => rw [zCs, fv, ih]
def bitB (bs : List Int) (k : Nat) : Nat := (bs.getD (k / 8) 0).toNat / 2 ^ (7 - k % 8) % 2
theorem zKy (bs : List Int) (k : Nat) : bitB bs k ≤ 1 := by unfold bitB; omega
def zEq (bs : List Int) : List Int → Nat → List Int
 | [], _ => []
 | z :: ws, at0 => (fv (bitB bs) at0 z.toNat : Int) :: zEq bs ws (at0 + z.toNat)
def zCm (ws : List Int) : Nat := (ws.map Int.toNat).sum
def zLg (bs : List Int) (s e : Nat) : Bool := decide (∀ k, k < e → s ≤ k → bitB bs k = 0)
def zBm (ws bs : List Int) : List Int × Int :=
 if (zDt ws).2 ≠ 0 then ([], (zDt ws).2) else if (bs.length : Int) ≠ (zDt ws).1 then ([], 4) else if zLg bs (zCm ws) (8 * bs.length) then (zEq bs ws 0, 0) else ([], 4)
end
section
open Go.RowKit
theorem take_val (z r : Nat) (hz : z ≤ 255) (hr : r ≤ 7) : bits .and .i64 ((z : Int) / 2 ^ r) 1 = ((z / 2 ^ r % 2 : Nat) : Int) := by
 have e : ((z:Int) / 2 ^ r) = ((z / 2 ^ r : Nat) : Int) := by simp
 have hd : z / 2 ^ r ≤ z := Nat.div_le_self _ _
 rw [e, show (1:Int) = ((1:Nat):Int) from rfl, zFj _ _ (by omega) (by omega), Nat.and_one_is_mod]
theorem zTn (g b o : Nat) (m c at0 z : Nat) (w : World) (hw : at0 / 8 < m) (hc : m ≤ c) (hat : at0 ≤ 1000000) (hz : z ≤ 255)
    (c0 : w.cell? ⟨g, 0, none⟩ = some (.slice (some ⟨b, o, none⟩) m c)) (c1 : w.cell? ⟨g, 1, none⟩ = some (.int .i64 at0)) (c2 : w.cell? ⟨b, o + at0 / 8, none⟩ = some (.int .u8 z))
    (f1 : w.frozen? ⟨g, 1, none⟩ = false) :
    Calls Tryz.prog 133 #[.pointer (some ⟨g, 0, none⟩)] w fun e w' => e = .returned (.int .i64 ((z / 2 ^ (7 - at0 % 8) % 2 : Nat) : Int)) ∧ (w.setCell ⟨g, 1, none⟩ (.int .i64 (at0 + 1))).drew = w' := by
 have hv := take_val z (7 - at0 % 8) hz (by omega)
 have hz2 : (0 : Int) ≤ (z : Int) / 2 ^ (7 - at0 % 8) ∧ (z : Int) / 2 ^ (7 - at0 % 8) ≤ 255 := by
  have e : ((z:Int) / 2 ^ (7 - at0 % 8)) = ((z / 2 ^ (7 - at0 % 8) : Nat) : Int) := by simp
  have hd : z / 2 ^ (7 - at0 % 8) ≤ z := Nat.div_le_self _ _
  rw [e]
  exact ⟨Int.natCast_nonneg _, Int.ofNat_le.2 (Nat.le_trans hd hz)⟩
 go_enter Tryz.func133, Tryz.ntmps133
 go_wp2_with fail
 go_region
 go_wp2
 go_ret
 exact ⟨rfl, rfl⟩
end
section
open Go.RowKit
theorem zNw (w : World) (B g : Nat) (A : Option Addr) (N c at0 : Nat) (bs : List Int) (hb : Blk w g 208 #[.slice A N c, .int .i64 at0]) (hr : Reads w B 1 A N (bs.map (.int .u8))) (hl : bs.length = N)
    (hn : at0 / 8 < N) (hc : N ≤ c) (hat : at0 ≤ 1000000) (hz : ∀ z ∈ bs, 0 ≤ z ∧ z ≤ 255) :
    Calls Tryz.prog 133 #[.pointer (some ⟨g, 0, none⟩)] w fun e w' => e = .returned (.int .i64 (bitB bs at0)) ∧ Blk w' g 208 #[.slice A N c, .int .i64 ((at0 + 1 : Nat) : Int)] ∧ w.grownBy w' (some g) := by
 obtain ⟨b, o, z, rfl, hbB, hz2, hcell⟩ := zDd hr hn
 obtain ⟨z, rfl⟩ := Int.eq_ofNat_of_zero_le (hz z (List.mem_of_getElem? hz2)).1
 have hz255 := (hz _ (List.mem_of_getElem? hz2)).2
 refine (zTn g b o N c at0 z w hn hc hat (by omega) (by rw [hb.cell]; rfl) (by rw [hb.cell]; rfl) hcell (hb.frozen 1)).mono ?_
 rintro e w' ⟨rfl, rfl⟩
 refine ⟨?_, ?_, ?_⟩
 ·have : bs.getD (at0 / 8) 0 = (z : Int) := by rw [List.getD_eq_getElem?_getD, hz2]; rfl
  unfold bitB
  rw [this]; rfl
 ·exact (hb.set_ 1 _).drew
 ·exact yDp (zGi (World.grownBy.refl w _) (.inl rfl) _)
theorem zSg (bs ws : List Int) (a k : Nat) (z : Int) (h : ws[k]? = some z) : (zEq bs ws a)[k]? = some (fv (bitB bs) (a + zCm (ws.take k)) z.toNat : Int) := by
 induction ws generalizing a k with
 | nil => simp at h
 | cons y ws ih =>
  cases k with
  | zero => simp at h; subst h; simp [zEq, zCm]
  | succ k =>
   simp at h
   rw [zEq, List.getElem?_cons_succ, ih _ _ h]
   simp [zCm, Nat.add_assoc]
theorem zKl (bs ws : List Int) (a : Nat) : (zEq bs ws a).length = ws.length := by
 induction ws generalizing a with
 | nil => rfl
 | cons y ws ih => simp [zEq, ih]
theorem zXj (ws : List Int) (k : Nat) (z : Int) (h : ws[k]? = some z) : zCm (ws.take (k + 1)) = zCm (ws.take k) + z.toNat := by
 rw [zBp ws k z h]; simp [zCm]
theorem zQz (ws : List Int) (k : Nat) : zCm (ws.take k) ≤ zCm ws := by
 have e : zCm ws = zCm (ws.take k) + zCm (ws.drop k) := by
  unfold zCm
  rw [← List.sum_append, ← List.map_append, List.take_append_drop]
 omega
def zIt (bs ws : List Int) (k : Nat) : List Value := ((zEq bs ws 0).take k).map (Value.int .i64)
theorem zXq (bs ws : List Int) (k : Nat) (z : Int) (h : ws[k]? = some z) : zIt bs ws (k + 1) = zIt bs ws k ++ [.int .i64 (fv (bitB bs) (zCm (ws.take k)) z.toNat : Int)] := by
 have := zSg bs ws 0 k z h
 rw [Nat.zero_add] at this
 simp [zIt, zBp _ k _ this]
theorem zZs (bs ws : List Int) : zIt bs ws ws.length = (zEq bs ws 0).map (Value.int .i64) := by
 unfold zIt; rw [List.take_of_length_le (by rw [zKl]; exact Nat.le_refl _)]
def zZi (ws bs : List Int) (W : World) (e : Ending) (w : World) : Prop := ∃ v, e = .returned (.tuple #[v, .int .i64 (zBm ws bs).2]) ∧ w.ownsRow W.heap.size 3 1 v (zBm ws bs).1.length ((zBm ws bs).1.map (.int .i64)) ∧ Below W.heap.size W w
theorem or_bit (v b : Nat) (hv : v ≤ 1152921504606846976) (hb : b ≤ 1) : bits .or .i64 ((v : Int) * 2) (b : Int) = ((2 * v + b : Nat) : Int) := by
 rw [show (v : Int) * 2 = ((v * 2 : Nat) : Int) by simp, zPs _ _ (by omega) (by omega), nat_join 1 (v * 2) b (by omega) (by omega), Nat.mul_comm]
set_option maxHeartbeats 800000 in
set_option maxRecDepth 100000 in
theorem zLk (A : Option Addr) (n c : Nat) (ws : List Int) (A' : Option Addr) (n' c' : Nat) (bs : List Int) (w : World) (hl : ws.length = n) (hm : n ≤ 9223372036854775807) (hr : Reads w w.heap.size 1 A n (ws.map (.int .i64)))
    (hl' : bs.length = n') (hm' : n' ≤ 9223372036854775807) (hc' : n' ≤ c') (hr' : Reads w w.heap.size 1 A' n' (bs.map (.int .u8))) (hz : ∀ z ∈ bs, 0 ≤ z ∧ z ≤ 255) :
    Calls Tryz.prog 112 #[.slice A n c, .slice A' n' c'] w (zZi ws bs w) := by
 obtain ⟨i0, hi, hz0, hz1, hz2⟩ := info_parts zWi
 have HR := hide hr
 have HR' := hide hr'
 have HL := hide hl
 have HL' := hide hl'
 have HZ := hide hz
 have HC := hide (zNj A n c ws _ w hl hm hr)
 clear hr hr' hz
 rcases zOl ws with hs | hs | ⟨N, hs, h40, hw60, hN⟩
 ·have HC2 := hide (by have h := zAa HC; rw [hs] at h; exact h)
  have HP := hide (show zBm ws bs = ([], 1) by unfold zBm; rw [hs]; rfl)
  clear HC hs hl hl'
  go_enter Tryz.func112, Tryz.ntmps112
  go_wp2_with fail
  refine (zAa HC2).mono ?_
  rintro e w' ⟨rfl, rfl⟩
  go_wp2_with fail
  go_ret2
  exact ⟨_, by rw [zAa HP]; rfl, by rw [zAa HP]; exact ⟨World.ownsRow_nil _ _ _ _, Below.refl _ _⟩⟩
 ·have HC2 := hide (by have h := zAa HC; rw [hs] at h; exact h)
  have HP := hide (show zBm ws bs = ([], 2) by unfold zBm; rw [hs]; rfl)
  clear HC hs hl hl'
  go_enter Tryz.func112, Tryz.ntmps112
  go_wp2_with fail
  refine (zAa HC2).mono ?_
  rintro e w' ⟨rfl, rfl⟩
  go_wp2_with fail
  go_ret2
  exact ⟨_, by rw [zAa HP]; rfl, by rw [zAa HP]; exact ⟨World.ownsRow_nil _ _ _ _, Below.refl _ _⟩⟩
 ·have HC2 := hide (by have h := zAa HC; rw [hs] at h; exact h)
  have hu : zBm ws bs = if ((bs.length : Nat) : Int) ≠ N then ([], 4) else if zLg bs (zCm ws) (8 * bs.length) then (zEq bs ws 0, 0) else ([], 4) := by unfold zBm; rw [hs]; simp
  by_cases hne : n' = N
  ·have HP := hide (show zBm ws bs = if zLg bs (zCm ws) (8 * N) then (zEq bs ws 0, 0) else ([], 4) by rw [hu, if_neg (by rw [hl', hne]; simp), hl', hne])
   have hT : zCm ws ≤ 8 * N := by unfold zCm; omega
   have hN4 : N ≤ 300 := by have := sum_le ws hw60; omega
   have hn40 : n ≤ 40 := by omega
   have HW60 := hide hw60
   subst hne
   clear HC hs hl hl' hu hN hw60 h40
   go_enter Tryz.func112, Tryz.ntmps112
   go_wp2_with fail
   refine (zAa HC2).mono ?_
   rintro e w' ⟨rfl, rfl⟩
   go_wp2_with fail
   go_loopw [9, 30] (fun v i wr => ∃ (k : Nat), k ≤ n ∧ i = .int .i64 k ∧ wr.ownsRow w.heap.size 3 1 v k (zIt bs ws k) ∧ Blk wr w.heap.size 208 #[.slice A' n' c', .int .i64 (zCm (ws.take k))] ∧ Below w.heap.size w wr) (fun _ i _ => n - (intOf i).toNat)
   case atStart => exact ⟨0, Nat.zero_le _, rfl, World.ownsRow_nil _ _ _ _, by simpa [zCm] using Blk.new w _ _, (Below.refl _ _).alloc (Nat.le_refl _) _⟩
   case round =>
    obtain ⟨k, hk, rfl, hown, hblk, hb⟩ := hrel
    have HOWN := hide hown
    have HBLK := hide hblk
    have HB := hide hb
    have hszr := hb.size
    clear hown hblk
    by_cases hlt : k < n
    ·obtain ⟨b, o, z, rfl, hab, hf, hc0⟩ := zDd ((zAa HR).below hb) hlt
     have hwd := zAa HW60 z (List.mem_of_getElem? hf)
     obtain ⟨wd, rfl⟩ := Int.eq_ofNat_of_zero_le (show 0 ≤ z by omega)
     have hwd2 : wd ≤ 60 := by omega
     have HT := hide (zXj ws k _ hf)
     have HTL := hide (zQz ws (k + 1))
     have HV := hide (zXq bs ws k _ hf)
     simp only [Int.toNat_natCast] at HT HV
     obtain ⟨T, hTT⟩ : ∃ T, T = zCm (ws.take k) := ⟨_, rfl⟩
     rw [← hTT] at HT HV HBLK
     have hT2 : T + wd ≤ 8 * n' := by have h1 := zAa HT; have h2 := zAa HTL; omega
     have HTT := hide hTT
     clear hf hwd hb hTT
     obtain ⟨wo, rfl⟩ : ∃ wo : World, wo = wr := ⟨_, rfl⟩
     go_wp2_with fail
     go_loopw [12, 35] (fun q i wr => ∃ (t : Nat), t ≤ wd ∧ i = .int .i64 t ∧ q = .int .i64 (fv (bitB bs) T t) ∧ wr.ownsRow w.heap.size 3 1 u9 k (zIt bs ws k) ∧ Blk wr w.heap.size 208 #[.slice A' n' c', .int .i64 ((T + t : Nat) : Int)] ∧ Below w.heap.size w wr) (fun _ i _ => wd - (intOf i).toNat)
     case atStart => exact ⟨0, Nat.zero_le _, rfl, rfl, zAa HOWN, zAa HBLK, zAa HB⟩
     case round =>
      obtain ⟨t, ht, rfl, rfl, ho2, hbk2, hb2⟩ := hrel
      have hfl := fv_lt (bitB bs) (zKy bs) T t
      have hfl2 : fv (bitB bs) T t ≤ 1152921504606846976 := by have := zQr (show t ≤ 60 by omega); omega
      by_cases htl : t < wd
      ·have HTAKE := hide (zNw wr _ w.heap.size A' n' c' (T + t) bs hbk2 ((zAa HR').below hb2) (zAa HL') (by omega) hc' (by omega) (zAa HZ))
       have hor := or_bit (fv (bitB bs) T t) (bitB bs (T + t)) hfl2 (zKy bs _)
       have HSTEP := hide (show fv (bitB bs) T (t + 1) = 2 * fv (bitB bs) T t + bitB bs (T + t) from rfl)
       have HO2 := hide ho2
       have HBK2 := hide hbk2
       have HB2 := hide hb2
       have hbit := zKy bs (T + t)
       clear ho2 hbk2 hb2 hfl
       go_wp2_with fail
       refine (zAa HTAKE).mono ?_
       rintro e w1 ⟨rfl, hbk3, hg3⟩
       have HBK3 := hide hbk3
       have HO3 := hide ((zAa HO2).kept hg3 (by
        rcases hv : u9.ownBlock with _ | x
        ·exact .inl rfl
        ·right; rw [← hv]; exact zAe (zAa HO2) (zAa HBK2) (by decide)))
       have HB3 := hide ((zAa HB2).grown hg3 (zAa HB2).size (fun x hx => by injection hx with hx; omega))
       clear hbk3 hg3
       go_wp2_with fail
       go_roundw
       case rel => exact ⟨t + 1, by omega, by go_num, by rw [zAa HSTEP]; go_num, zAa HO3, zAa HBK3, zAa HB3⟩
       case measure => simp [intOf]; omega
      ·obtain rfl : t = wd := by omega
       have HO2 := hide ho2
       have HBK2 := hide hbk2
       have HB2 := hide hb2
       have hszy := hb2.size
       clear ho2 hbk2 hb2 hfl
       go_wp2_with (first
        | (at_builtin; (refine zAl _ rfl (.tmp 43) (.tmp 45) _ rfl w.heap.size 3 i0 _ 1 8 Tryz.underlying22 hi hz0 hz1 hz2 rfl (by omega) (by omega) _ _ _ (zAa HO2) rfl _ 1 _ rfl rfl rfl (by simp [Value.oneCell']) (by omega) (by omega) ?_); intro g cap w1 hg hown1 hbel1 hgr1 _))
       have HO3 := hide (show w1.ownsRow w.heap.size 3 1 (.slice (some ⟨g, 0, none⟩) (k + 1) cap) (k + 1) (zIt bs ws (k + 1)) by rw [zAa HV]; exact hown1)
       have HBK3 := hide (show Blk w1 w.heap.size 208 #[.slice A' n' c', .int .i64 (zCm (ws.take (k + 1)))] from by
        rw [zAa HT]
        exact (zAa HBK2).grown hgr1 (fun he => zAe (zAa HO2) (zAa HBK2) (by decide) he.symm))
       have HB3 := hide (hbel1 _ _ (Nat.le_refl _) (zAa HB2))
       clear hown1 hgr1
       go_wp2_with fail
       go_roundw
       case rel => exact ⟨k + 1, by omega, by go_num, zAa HO3, zAa HBK3, zAa HB3⟩
       case measure => simp [intOf]; omega
    ·obtain rfl : k = n := by omega
     have hall : ws.take k = ws := List.take_of_length_le (by rw [zAa HL]; exact Nat.le_refl _)
     have HBK2 := hide (show Blk wr w.heap.size 208 #[.slice A' n' c', .int .i64 (zCm ws)] by have h := zAa HBLK; rw [hall] at h; exact h)
     have HO2 := hide (show wr.ownsRow w.heap.size 3 1 u9 (zEq bs ws 0).length ((zEq bs ws 0).map (.int .i64)) by
      have h := zAa HOWN
      rw [zKl, zAa HL, ← zZs, zAa HL]; exact h)
     obtain ⟨T, hTT⟩ : ∃ T, T = zCm ws := ⟨_, rfl⟩
     rw [← hTT] at HBK2 hT HP
     clear hall hb HOWN HBLK hTT
     obtain ⟨wo, rfl⟩ : ∃ wo : World, wo = wr := ⟨_, rfl⟩
     go_wp2_with fail
     go_loopg [] (8 * n' - T) (fun q wr => ∃ (t : Nat), T + t + q = 8 * n' ∧ Hid (∀ k, k < T + t → T ≤ k → bitB bs k = 0) ∧ wr.ownsRow w.heap.size 3 1 u9 (zEq bs ws 0).length ((zEq bs ws 0).map (.int .i64)) ∧ Blk wr w.heap.size 208 #[.slice A' n' c', .int .i64 ((T + t : Nat) : Int)] ∧ Below w.heap.size w wr)
     case atStart => exact ⟨0, by omega, fun k h1 h2 => by omega, zAa HO2, zAa HBK2, zAa HB⟩
     case round =>
      obtain ⟨t, ht, HZE, ho2, hbk2, hb2⟩ := hrel
      have b1 : wr.cell? ⟨w.heap.size, 1, none⟩ = some (.int .i64 ((T + t : Nat) : Int)) := by rw [hbk2.cell]; rfl
      by_cases htl : T + t < 8 * n'
      ·have HTAKE := hide (zNw wr _ w.heap.size A' n' c' (T + t) bs hbk2 ((zAa HR').below hb2) (zAa HL') (by omega) hc' (by omega) (zAa HZ))
       have HO3 := hide ho2
       have HBK3 := hide hbk2
       have HB3 := hide hb2
       have hbit := zKy bs (T + t)
       clear ho2 hbk2 hb2
       rcases (show bitB bs (T + t) = 0 ∨ bitB bs (T + t) = 1 by omega) with hb0 | hb0
       ·have HZE2 := hide (show ∀ k, k < T + (t + 1) → T ≤ k → bitB bs k = 0 by
         intro k h1 h2
         by_cases e : k = T + t
         ·rw [e]; exact hb0
         ·exact zAa HZE k (by omega) h2)
        have HTK := hide (by have h := zAa HTAKE; rw [hb0] at h; exact h)
        clear HTAKE hb0 hbit
        go_wp2_with fail
        refine (zAa HTK).mono ?_
        rintro e w1 ⟨rfl, hbk4, hg4⟩
        have HBK4 := hide hbk4
        have HO4 := hide ((zAa HO3).kept hg4 (by
         rcases hv : u9.ownBlock with _ | x
         ·exact .inl rfl
         ·right; rw [← hv]; exact zAe (zAa HO3) (zAa HBK3) (by decide)))
        have HB4 := hide ((zAa HB3).grown hg4 (zAa HB3).size (fun x hx => by injection hx with hx; omega))
        clear hbk4 hg4
        go_wp2_with fail
        go_roundg (gk - 1)
        case measure => omega
        case rel => exact ⟨t + 1, by omega, zAa HZE2, zAa HO4, zAa HBK4, zAa HB4⟩
       ·have HP2 := hide (show zBm ws bs = ([], 4) by
         rw [zAa HP, if_neg]
         intro h
         unfold zLg at h
         have := of_decide_eq_true h (T + t) htl (by omega)
         omega)
        have HTK := hide (by have h := zAa HTAKE; rw [hb0] at h; exact h)
        clear HTAKE hb0 hbit
        go_wp2_with fail
        refine (zAa HTK).mono ?_
        rintro e w1 ⟨rfl, hbk4, hg4⟩
        have HB4 := hide ((zAa HB3).grown hg4 (zAa HB3).size (fun x hx => by injection hx with hx; omega))
        clear hbk4 hg4
        go_wp2_with fail
        go_ret2
        exact ⟨_, by rw [zAa HP2]; rfl, by rw [zAa HP2]; exact ⟨World.ownsRow_nil _ _ _ _, zAa HB4⟩⟩
      ·have HP2 := hide (show zBm ws bs = (zEq bs ws 0, 0) by
        rw [zAa HP, if_pos]
        unfold zLg
        exact decide_eq_true fun k h1 h2 => zAa HZE k (by omega) h2)
       have HO3 := hide ho2
       have HB3 := hide hb2
       clear ho2 hb2 hbk2
       go_wp2_with fail
       go_ret2
       exact ⟨_, by rw [zAa HP2]; rfl, by rw [zAa HP2]; exact ⟨zAa HO3, zAa HB3⟩⟩
  ·have HP := hide (show zBm ws bs = ([], 4) by rw [hu, if_pos (by rw [hl']; intro h; exact hne (by exact_mod_cast h))])
   have hne' : ((n' : Int) != (N : Int)) = true := by rw [bne_iff_ne]; intro h; exact hne (by exact_mod_cast h)
   clear HC hs hl hl' hu hN hw60 h40 hne
   go_enter Tryz.func112, Tryz.ntmps112
   go_wp2_with fail
   refine (zAa HC2).mono ?_
   rintro e w' ⟨rfl, rfl⟩
   go_wp2_with fail
   go_ret2
   exact ⟨_, by rw [zAa HP]; rfl, by rw [zAa HP]; exact ⟨World.ownsRow_nil _ _ _ _, Below.refl _ _⟩⟩
end
section
open Go.RowKit
theorem yDg : (Tryz.prog.info? 3).map (fun i => (i.zero, i.size, i.bytes)) = some (some (.int .i64 0), 1, 8) := by kernel_rfl
theorem zSf (A : Option Addr) (n c : Nat) (ws : List Int) (lv : Int) (B : Nat) (w : World) (hl : ws.length = n) (hn : n ≤ 16) (hw : ∀ z ∈ ws, 0 ≤ z ∧ z ≤ 1048576) (h0 : 0 ≤ lv) (h1 : lv ≤ 1048577) (hr : Reads w B 1 A n (ws.map (.int .i64))) :
    Calls Tryz.prog 131 #[.slice A n c, .int .i64 lv] w fun e w' => e = .returned (.int .i64 (zAu ws lv)) ∧ w = w' := by
 have HR := hide hr
 have HL := hide hl
 have HW := hide hw
 clear hr hl hw
 go_enter Tryz.func131, Tryz.ntmps131
 go_wp2_with fail
 go_loop [4, 9] (fun s i => ∃ (k : Nat) (s0 : Int), k ≤ n ∧ i = .int .i64 k ∧ s = .int .i64 s0 ∧ 0 ≤ s0 ∧ s0 ≤ 1048576 * k ∧ Hid (s0 + zAu (ws.drop k) lv = zAu ws lv)) (fun _ i => n - (intOf i).toNat)
 case atStart => exact ⟨0, 0, Nat.zero_le _, rfl, rfl, by omega, by omega, by show 0 + zAu (ws.drop 0) lv = zAu ws lv; simp⟩
 case round =>
  obtain ⟨k, s0, hk, rfl, rfl, hs0, hs1, HI⟩ := hrel
  by_cases hlt : k < n
  ·obtain ⟨b, o, z, rfl, _, hz, hc⟩ := zDd (zAa HR) hlt
   have hzb := zAa HW z (List.mem_of_getElem? hz)
   have HI2 := hide (show (s0 + min z lv) + zAu (ws.drop (k + 1)) lv = zAu ws lv by
    have h := zAa HI
    rw [zCb ws k z hz, zAu] at h
    omega)
   have hz0 := hzb.1
   have hz1 := hzb.2
   clear HI hz hzb
   by_cases hm : z ≤ lv
   ·have HI3 := hide (show (s0 + z) + zAu (ws.drop (k + 1)) lv = zAu ws lv by have h := zAa HI2; rw [Int.min_eq_left hm] at h; exact h)
    go_wp2_with fail
    go_round
    case rel => exact ⟨k + 1, s0 + z, by omega, by go_num, rfl, by omega, by omega, zAa HI3⟩
    case measure => simp [intOf]; omega
   ·have HI3 := hide (show (s0 + lv) + zAu (ws.drop (k + 1)) lv = zAu ws lv by have h := zAa HI2; rw [Int.min_eq_right (by omega)] at h; exact h)
    have hm' : lv < z := by omega
    clear hm
    go_wp2_with fail
    go_round
    case rel => exact ⟨k + 1, s0 + lv, by omega, by go_num, rfl, by omega, by omega, zAa HI3⟩
    case measure => simp [intOf]; omega
  ·obtain rfl : k = n := by omega
   have HF := hide (show s0 = zAu ws lv by
    have h := zAa HI
    rw [List.drop_of_length_le (by rw [zAa HL]; exact Nat.le_refl _), zAu] at h
    omega)
   clear HI
   go_wp2_with fail
   go_ret
   exact ⟨zBn (zAa HF), rfl⟩
theorem zUe (A : Option Addr) (n c : Nat) (ws : List Int) (total lv : Int) (B : Nat) (w : World) (pw pt : Addr) (hl : ws.length = n) (hn : n ≤ 16) (hw : ∀ z ∈ ws, 0 ≤ z ∧ z ≤ 1048576) (h0 : 0 ≤ lv) (h1 : lv ≤ 1048577) (hr : Reads w B 1 A n (ws.map (.int .i64)))
    (cw : w.cell? pw = some (.slice A n c)) (ct : w.cell? pt = some (.int .i64 total)) :
    Calls Tryz.prog 130 #[.int .i64 lv, .pointer (some pw), .pointer (some pt)] w fun e w' => e = .returned (.bool (decide (total < zAu ws lv))) ∧ ∃ m, w.drewN m = w' := by
 have HC := hide (fun q : Nat => zSf A n c ws lv B (w.drewN q) hl hn hw h0 h1 (hr.drewN q))
 clear hr hl hw
 go_enter Tryz.func130, Tryz.ntmps130
 go_wp2_with fail
 go_quiet ((go_at_call 131; exact yAq (zAa HC _)))
 go_wp2_with fail
 go_ret
 exact ⟨rfl, _, rfl⟩
theorem zZv (args : Array Value) (W : World) : (callFunc 130 args).run Tryz.prog W = .ok (.enter 130 args) W :=
 zDh Tryz.func130 (by kernel_rfl) rfl args W
theorem zZj (fn : FuncId) (cap : Array Value) (f : Int → Bool) (N : Nat) (hN : N ≤ 2000000) (w : World)
    (hrun : ∀ args W, (callFunc fn args).run Tryz.prog W = .ok (.enter fn args) W)
    (h : ∀ (k : Nat) (q : Nat), k < N → Calls Tryz.prog fn (#[.int .i64 k] ++ cap) (w.drewN q) fun e w' => e = .returned (.bool (f k)) ∧ ∃ m, (w.drewN q).drewN m = w') :
    Calls Tryz.prog 129 #[.int .i64 N, .func (.func fn) #[] cap] w fun e w' => ∃ i : Nat, e = .returned (.int .i64 i) ∧ i ≤ N ∧ (i = 0 ∨ f ((i : Int) - 1) = false) ∧ (i = N ∨ f i = true) ∧ ∃ m, w.drewN m = w' := by
 have H := hide h
 clear h
 go_enter Tryz.func129, Tryz.ntmps129
 go_wp2
 go_loopw [5, 6] (fun x y wr => ∃ i j q : Nat, i ≤ j ∧ j ≤ N ∧ x = .int .i64 i ∧ y = .int .i64 j ∧ wr = w.drewN q ∧ Hid ((i = 0 ∨ f ((i : Int) - 1) = false) ∧ (j = N ∨ f j = true))) (fun x y _ => (intOf y - intOf x).toNat)
 case atStart => exact ⟨0, N, 0, Nat.zero_le _, Nat.le_refl _, rfl, rfl, rfl, .inl rfl, .inl rfl⟩
 case round =>
  obtain ⟨i, j, q, hij, hjN, rfl, rfl, rfl, HI⟩ := hrel
  by_cases hlt : i < j
  ·have hk : (i + j) / 2 < N := by omega
   have hmid : IntKind.u64.wrap ((i : Int) + (j : Int)) = (i : Int) + (j : Int) := by simp [IntKind.wrap, IntKind.bits, IntKind.signed]; omega
   have e2 : (((i + j) / 2 : Nat) : Int) = ((i : Int) + (j : Int)) / 2 := by omega
   have Hk := zAa H ((i + j) / 2) q hk
   rw [e2] at Hk
   have HI2 := hide (zAa HI)
   clear HI
   cases hf : f (((i : Int) + (j : Int)) / 2) with
   | true =>
    rw [hf] at Hk
    have Hf := hide hf
    have HK := hide Hk
    clear hf Hk
    go_wp2_with fail
    refine (zAa HK).mono ?_
    rintro e w2 ⟨rfl, m, rfl⟩
    go_wp2_with fail
    go_round
    case rel =>
     refine ⟨i, (i + j) / 2, q + m, by omega, by omega, rfl, by rw [← e2], rfl, (zAa HI2).1, .inr ?_⟩
     rw [e2]; exact zAa Hf
    case measure => simp [intOf]; omega
   | false =>
    rw [hf] at Hk
    have Hf := hide hf
    have HK := hide Hk
    clear hf Hk
    go_wp2_with fail
    refine (zAa HK).mono ?_
    rintro e w2 ⟨rfl, m, rfl⟩
    go_wp2_with fail
    go_round
    case rel =>
     refine ⟨(i + j) / 2 + 1, j, q + m, by omega, by omega, by rw [← e2]; rfl, rfl, rfl, .inr ?_, (zAa HI2).2⟩
     rw [Int.natCast_add, e2]; simpa using zAa Hf
    case measure => simp [intOf]; omega
  ·obtain rfl : i = j := by omega
   have HI2 := hide (zAa HI)
   clear HI
   go_wp2_with fail
   go_ret
   exact ⟨i, rfl, hjN, (zAa HI2).1, (zAa HI2).2, q, rfl⟩
end
end Go.Proofs.YtbolcebmbpepdaaGreatDoor
