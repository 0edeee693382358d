/- Contracts and plain facts, set together by program out of smaller texts. Conditions: none beyond what each theorem states. -/
import Derived.Test.YtbolcebmbpepdaaGreatDoorProg
import Derived.BigQuiet
import Derived.Test.YtbolcebmbpepdaaGreatDoorM14
import Derived.Test.YtbolcebmbpepdaaGreatDoorM10
import Derived.Test.YtbolcebmbpepdaaGreatDoorM04
import Derived.Test.YtbolcebmbpepdaaGreatDoorM05
import Derived.Test.YtbolcebmbpepdaaGreatDoorM01
import Derived.Test.YtbolcebmbpepdaaGreatDoorM02
import Derived.Test.YtbolcebmbpepdaaGreatDoorM11
namespace Go.Proofs.YtbolcebmbpepdaaGreatDoor
set_option linter.unusedVariables false
section
open Go.RowKit
theorem zRj (n k : Nat) (hn : n < 9223372036854775808) (hk : k ≤ 62) : bits .and .i64 (n : Int) ((2 ^ k - 1 : Nat) : Int) = ((n % 2 ^ k : Nat) : Int) := by
 have hp : (2:Nat) ^ k ≤ 2 ^ 62 := Nat.pow_le_pow_right (by omega) hk
 rw [zFj _ _ hn (by omega), Nat.and_two_pow_sub_one_eq_mod]
set_option maxHeartbeats 1000000 in
theorem zRo (key n : Nat) (w : World) (hk : key ≤ 1000) (hn : n < 17179869184) : Calls Tryz.prog 114 #[.int .i64 key, .int .i64 n] w fun e w' => e = .returned (.tuple #[entV (decE key n), .bool (decide (1 ≤ n / 4294967296))]) ∧ Below w.heap.size w w' := by
 have h7 : bits .and .i64 (n : Int) 7 = ((n % 8 : Nat) : Int) := zRj n 3 (by omega) (by omega)
 have h21 : bits .and .i64 ((n : Int) / 8) 2097151 = ((n / 8 % 2097152 : Nat) : Int) := by
  have := zRj (n / 8) 21 (by omega) (by omega)
  rw [show ((n : Int) / 8) = ((n / 8 : Nat) : Int) by omega]
  exact this
 have h8 : bits .and .i64 ((n : Int) / 8 / 2097152) 255 = ((n / 16777216 % 256 : Nat) : Int) := by
  have := zRj (n / 16777216) 8 (by omega) (by omega)
  rw [show ((n : Int) / 8 / 2097152) = ((n / 16777216 : Nat) : Int) by omega]
  exact this
 have hg : (((n : Int) / 8 / 2097152 / 256) == 3) = decide (n / 4294967296 = 3) := by rw [Bool.eq_iff_iff]; simp; omega
 have hp : decide ((0 : Int) < (n : Int) / 8 / 2097152 / 256) = decide (1 ≤ n / 4294967296) := by rw [Bool.eq_iff_iff]; simp; omega
 have HB := hide (fun cs => show Below w.heap.size w (w.alloc (.cells cs 125)) from (Below.refl _ _).alloc (Nat.le_refl _) _)
 have H7 := hide h7
 have H21 := hide h21
 have H8 := hide h8
 have HG := hide hg
 have HP := hide hp
 clear h7 h21 h8 hg hp
 go_enter Tryz.func114, Tryz.ntmps114
 go_wp2_with fail
 refine bodyPost_ret (v := .tuple #[.agg #[.int .i64 key, .int .i64 (bits .and .i64 ((n : Int) / 8 / 2097152) 255), .int .i64 (bits .and .i64 ((n : Int) / 8) 2097151), .int .i64 (bits .and .i64 (n : Int) 7), .bool (((n : Int) / 8 / 2097152 / 256) == 3)], .bool (decide ((0 : Int) < (n : Int) / 8 / 2097152 / 256))]) (by simp [results, Tryz.results114, go_sem]) rfl ⟨?_, zAa HB _⟩
 rw [zAa H7, zAa H21, zAa H8, zAa HG, zAa HP]
 rfl
structure OTb (w : World) (base g : Nat) (S : List EnR) : Prop where
 blk : Blk w g 103 (S.map EnR.val).toArray
 rows : ∀ r ∈ S, w.ownsRow base 125 5 r.val r.es.length (r.es.flatMap zAd)
 apart : ∀ (i j : Nat) (ri rj : EnR), S[i]? = some ri → S[j]? = some rj → i ≠ j → ri.val.ownBlock = none ∨ ri.val.ownBlock ≠ rj.val.ownBlock
 low : base ≤ g
section
variable {w w' : World} {base g : Nat} {S : List EnR}
theorem OTb.only {D : Nat → Prop} (h : OTb w base g S) (ho : Only D w w') (h1 : ¬ D g) (h2 : ∀ r ∈ S, ∀ k, r.val.ownBlock = some k → ¬ D k) : OTb w' base g S :=
 ⟨h.blk.only ho h1, fun r hr => zAk (h.rows r hr) ho (h2 r hr), h.apart, h.low⟩
theorem OTb.calm (h : OTb w base g S) (hb : Below w.heap.size w w') : OTb w' base g S :=
 h.only (D := fun _ => False) (Only.of_below hb (fun x h1 h2 => by omega)) (fun e => e) (fun _ _ _ _ e => e)
theorem OTb.cell (h : OTb w base g S) {i : Nat} {r : EnR} (hi : S[i]? = some r) : w.cell? ⟨g, i, none⟩ = some r.val := by
 rw [h.blk.cell i]
 simp [hi]
theorem OTb.push (h : OTb w base g S) {i : Nat} {r r' : EnR} (hi : S[i]? = some r) (hg : w.grownBy w' r.val.ownBlock) (ho : w'.ownsRow base 125 5 r'.val r'.es.length (r'.es.flatMap zAd)) (hat : r'.val.ownBlock = r.val.ownBlock ∨ ∃ k, r'.val.ownBlock = some k ∧ w.heap.size ≤ k) :
    OTb (w'.setCell ⟨g, i, none⟩ r'.val) base g (S.set i r') := by
 have h1 : Only (fun k => r.val.ownBlock = some k) w w' := (Only.refl _ _).grown hg (fun g hg _ => hg)
 have h2 : Only (fun k => k = g) w' (w'.setCell ⟨g, i, none⟩ r'.val) := zAg (Only.refl _ _) _ _
 have hrr := h.rows r (List.mem_of_getElem? hi)
 have hb1 := h.blk.only h1 (fun e => zAe hrr h.blk (by decide) e)
 have hother : ∀ (j : Nat) (rj : EnR), S[j]? = some rj → i ≠ j → (w'.setCell ⟨g, i, none⟩ r'.val).ownsRow base 125 5 rj.val rj.es.length (rj.es.flatMap zAd) := fun j rj hj hij => by
  have hrj := h.rows rj (List.mem_of_getElem? hj)
  refine zAk (zAk hrj h1 fun k hk hd => ?_) h2 fun k hk e => ?_
  ·rcases h.apart i j r rj hi hj hij with e | e
   ·rw [e] at hd; cases hd
   ·exact e (by rw [hd, hk])
  ·exact zAe hrj h.blk (by decide) (by rw [hk, e])
 have hself : (w'.setCell ⟨g, i, none⟩ r'.val).ownsRow base 125 5 r'.val r'.es.length (r'.es.flatMap zAd) := zAk ho h2 fun k hk e => zAe ho hb1 (by decide) (by rw [hk, e])
 have hil := (List.getElem?_eq_some_iff.1 hi).1
 refine ⟨?_, fun x hx => ?_, fun a b ra rb ha hb hab => ?_, h.low⟩
 ·have := hb1.set_ i r'.val
  have e : (S.map EnR.val).toArray.setIfInBounds i r'.val = ((S.set i r').map EnR.val).toArray := by
   rw [← Array.toList_inj]
   simp [List.map_set]
  rwa [e] at this
 ·obtain ⟨j, hj⟩ := List.mem_iff_getElem?.1 hx
  by_cases hij : i = j
  ·subst hij
   rw [List.getElem?_set_self hil] at hj
   cases hj
   exact hself
  ·rw [List.getElem?_set_ne hij] at hj
   exact hother j x hj hij
 ·have fresh : ∀ (j : Nat) (rj : EnR), S[j]? = some rj → i ≠ j → (r'.val.ownBlock = none ∨ r'.val.ownBlock ≠ rj.val.ownBlock) ∧ (rj.val.ownBlock = none ∨ rj.val.ownBlock ≠ r'.val.ownBlock) := fun j rj hj hij => by
   rcases hat with e | ⟨k, hk, hkl⟩
   ·rw [e]
    exact ⟨h.apart i j r rj hi hj hij, h.apart j i rj r hj hi (fun e => hij e.symm)⟩
   ·have hlt := (h.rows rj (List.mem_of_getElem? hj)).lt
    refine ⟨.inr fun e => ?_, ?_⟩
    ·rw [hk] at e
     have := (hlt k e.symm).2
     omega
    ·right
     intro e
     rw [hk] at e
     have := (hlt k e).2
     omega
  by_cases hai : i = a
  ·subst hai
   rw [List.getElem?_set_self hil] at ha
   cases ha
   rw [List.getElem?_set_ne hab] at hb
   exact (fresh b rb hb hab).1
  ·rw [List.getElem?_set_ne hai] at ha
   by_cases hbi : i = b
   ·subst hbi
    rw [List.getElem?_set_self hil] at hb
    cases hb
    exact (fresh a ra ha hai).2
   ·rw [List.getElem?_set_ne hbi] at hb
    exact h.apart a b ra rb ha hb hab
end
set_option maxRecDepth 100000 in
theorem zXe (v : Int) (g0 c0 : Nat) (w : World) (hg : g0 < w.heap.size) (hv : w.cell? ⟨g0, 0, none⟩ = some (.int .i64 v)) :
    Calls Tryz.prog 111 #[.slice (some ⟨g0, 0, none⟩) 1 c0, .int .i64 0] w fun e w' => ∃ A c, e = .returned (.slice A 0 c) ∧ Below w.heap.size w w' := by
 obtain ⟨i0, hi, hz0, hz1, hz2⟩ := zMe
 have hmk := fun W => zDn (P := Tryz.prog) 22 3 i0 _ Tryz.underlying22 hi hz0 .i64 .i64 0 0 (Nat.le_refl _) (by rw [hz2]; omega) (by omega) W
 rw [hz1] at hmk
 have H := mul_one 0 (by omega) w
 simp only [Int.cast_ofNat_Int] at H hmk
 have H := hide H
 have hcp : ∀ (W : World) (g c ty : Nat), (Builtin.copy_ #[22, 22] ty #[.slice (some ⟨g, 0, none⟩) 0 c, .slice (some ⟨g0, 0, none⟩) 1 c0]).run Tryz.prog W = .ok (.int .i64 0) W := fun W g c ty => by
  simp [Builtin.copy_, run_underlying Tryz.underlying22, sizeOf, typeInfo, hi, Builtin.lenOf, Builtin.firstCells, goInt]
  have h := run_loadCells_list (P := Tryz.prog) W ⟨g0, 0, none⟩ [] (fun j v h => by simp at h)
  simp only [List.length_nil] at h
  rw [h]
  rfl
 have HB := hide (show Below w.heap.size w (w.alloc (.cells (madeCells #[.int .i64 0] (0 * 1)) 3)) from (Below.refl _ _).alloc (Nat.le_refl _) _)
 go_enter Tryz.func111, Tryz.ntmps111
 go_wp2_with fail
 refine (zAa H).mono ?_
 rintro _ _ ⟨rfl, rfl⟩
 go_wp2_with fail
 go_loopw [8] (fun x wr => x = .int .i64 0 ∧ Below w.heap.size w wr) (fun x _ => 0)
 case atStart => exact ⟨rfl, zAa HB⟩
 case round =>
  obtain ⟨rfl, hz⟩ := hrel
  have hd : decide ((0 : Int) < 0) = false := by simp
  go_wp2_with fail
  go_ret
  exact ⟨_, _, rfl, hz⟩
theorem zYo (v : Int) (n g0 c0 : Nat) (w : World) (hn : n ≤ 32) (hg : g0 < w.heap.size) (hv : w.cell? ⟨g0, 0, none⟩ = some (.int .i64 v)) :
    Calls Tryz.prog 111 #[.slice (some ⟨g0, 0, none⟩) 1 c0, .int .i64 n] w fun e w' => ∃ A c, e = .returned (.slice A n c) ∧ Reads w' w'.heap.size 1 A n ((List.replicate n v).map (.int .i64)) ∧ Below w.heap.size w w' := by
 rcases Nat.eq_zero_or_pos n with h | h
 ·subst h
  exact (zXe v g0 c0 w hg hv).mono fun e w' ⟨A, c, he, hb⟩ => ⟨A, c, he, ⟨rfl, fun h => absurd h (by omega)⟩, hb⟩
 ·exact (zMd v n g0 c0 w h hn hg hv).mono fun e w' ⟨u, he, ho, hb⟩ => by
   obtain ⟨A, c, rfl, _⟩ := zAf ho
   exact ⟨A, c, he, Reads.of_own ho, hb⟩
def zYx (B : Nat) (w' : World) (t : TabR) : Prop := (t.rs = [] ∨ ∃ g, B ≤ g ∧ t.A = some ⟨g, 0, none⟩ ∧ Blk w' g 103 (t.rs.map EnR.val).toArray) ∧ ∀ r ∈ t.rs, w'.ownsRow B 125 5 r.val r.es.length (r.es.flatMap zAd)
def zJk (r : List (List Ent) × Int) (w : World) (e : Ending) (w' : World) : Prop :=
 ∃ t : TabR, e = .returned (.tuple #[t.val, .int .i64 r.2]) ∧ t.es = r.1 ∧ TabRd w' w'.heap.size t ∧ Below w.heap.size w w' ∧ zYx w.heap.size w' t
theorem zFw {r : List (List Ent) × Int} {x : Int} {w w' : World} (h : r = ([], x)) (hb : Below w.heap.size w w') : zJk r w (.returned (.tuple #[.slice none 0 0, .int .i64 x])) w' := by
 rw [h]
 exact ⟨⟨[], none, 0⟩, rfl, rfl, ⟨Reads.none_, fun r h => by simp at h⟩, hb, Or.inl rfl, fun r h => by simp at h⟩
set_option maxRecDepth 100000 in
set_option maxHeartbeats 4000000 in
theorem zYn (c : Cfg) (a b : Int) (bA : Option Addr) (bn bc : Nat) (bs : List Int) (B : Nat) (w : World) (hc : c.ok w B) (hB : B ≤ w.heap.size) (hbad : ¬ (zAh c = true ∧ (brOk c a = true ∧ brOk c b = true))) :
    Calls Tryz.prog 89 #[c.val, .int .i64 a, .int .i64 b, .slice bA bn bc] w (zJk (zBv c a b bs) w) := by
 have HMY := hide (fun W (hW : Below w.heap.size w W) => zEe c B W (hc.below (hW.mono hB)) (Nat.le_trans hB hW.size))
 have HBR := hide (fun (W : World) (h : zAh c = true) (g : Nat) (hg : Blk W g 3 #[.int .i64 a, .int .i64 b]) => zGa c (some ⟨g, 0, none⟩) 2 2 [a, b] W.heap.size W (by have := zKm h; omega) rfl (by unfold maxLen; omega) (by have := zCh (cs := [.int .i64 a, .int .i64 b]) hg hg.lt; simpa using this) (Nat.le_refl _))
 obtain ⟨w1, hw1⟩ : ∃ w1, w1 = w.alloc (.cells c.cells.toArray 24) := ⟨_, rfl⟩
 have hb1 : Below w.heap.size w w1 := by rw [hw1]; exact (Below.refl _ _).alloc (Nat.le_refl _) _
 obtain ⟨p, hp⟩ : ∃ p, p = w.heap.size := ⟨_, rfl⟩
 have kb : Blk w1 p 24 c.cells.toArray := by rw [hw1, hp]; exact Blk.new w _ _
 have HB1 := hide hb1
 have HW1 := hide hw1
 have HP := hide hp
 have HP1 := hide (show zAh c = false → zBv c a b bs = ([], 4) from fun h => by unfold zBv; rw [if_pos h])
 have HP2 := hide (show zAh c = true → (brOk c a = false ∨ brOk c b = false) → zBv c a b bs = ([], 2) from fun h h2 => by unfold zBv; rw [if_neg (by rw [h]; simp), if_pos h2])
 generalize zBv c a b bs = R at *
 have k0 := fun (W : World) (hz : Below w1.heap.size w1 W) => (kb.below hz kb.lt).cell 0
 have k1 := fun (W : World) (hz : Below w1.heap.size w1 W) => (kb.below hz kb.lt).cell 1
 have k2 := fun (W : World) (hz : Below w1.heap.size w1 W) => (kb.below hz kb.lt).cell 2
 have k3 := fun (W : World) (hz : Below w1.heap.size w1 W) => (kb.below hz kb.lt).cell 3
 have k4 := fun (W : World) (hz : Below w1.heap.size w1 W) => (kb.below hz kb.lt).cell 4
 have hz1 : Below w1.heap.size w1 w1 := Below.refl _ _
 clear hb1 kb hp hw1 hc
 obtain ⟨br, ⟨lA, ln, lc, ls⟩, tk, ⟨mA, mn, mc, ms⟩, cap⟩ := c
 unfold Cfg.cells at HW1 k0 k1 k2 k3 k4
 unfold Cfg.val at HMY HBR ⊢
 dsimp only at HMY HBR HW1 k0 k1 k2 k3 k4 ⊢
 simp only [List.getElem?_toArray, List.getElem?_cons_zero, List.getElem?_cons_succ] at k0 k1 k2 k3 k4
 have HBA := hide hbad
 clear hbad
 cases hcf : zAh ⟨br, ⟨lA, ln, lc, ls⟩, tk, ⟨mA, mn, mc, ms⟩, cap⟩
 ·rw [hcf] at HMY HP1
  clear hcf
  go_enter Tryz.func89, Tryz.ntmps89
  go_upto_region 1 with fail
  rw [← zAa HP, ← zAa HW1]
  go_wp2_with fail
  refine (zAa HMY w1 (zAa HB1)).mono ?_
  rintro _ w2 ⟨rfl, hb2⟩
  have HB2 := hide ((zAa HB1).trans (hb2.mono (zAa HB1).size))
  clear hb2
  go_wp2_with fail
  go_ret2
  exact zFw (zAa HP1 trivial) (zAa HB2)
 have hab : ¬ (brOk ⟨br, ⟨lA, ln, lc, ls⟩, tk, ⟨mA, mn, mc, ms⟩, cap⟩ a = true ∧ brOk ⟨br, ⟨lA, ln, lc, ls⟩, tk, ⟨mA, mn, mc, ms⟩, cap⟩ b = true) := fun h => zAa HBA ⟨hcf, h⟩
 have hab2 : (brOk ⟨br, ⟨lA, ln, lc, ls⟩, tk, ⟨mA, mn, mc, ms⟩, cap⟩ a && brOk ⟨br, ⟨lA, ln, lc, ls⟩, tk, ⟨mA, mn, mc, ms⟩, cap⟩ b) = false := by
  rw [← Bool.not_eq_true, Bool.and_eq_true]; exact hab
 have HPX := hide (zAa HP2 hcf (by rw [← Bool.and_eq_false_iff]; exact hab2))
 have HBR2 := hide (fun W g hg => by have h := zAa HBR W hcf g hg; simp only [List.all_cons, List.all_nil, Bool.and_true] at h; rw [hab2] at h; exact h)
 rw [hcf] at HMY
 clear hcf hab hab2 HBR HBA HP1 HP2
 go_enter Tryz.func89, Tryz.ntmps89
 go_upto_region 1 with fail
 rw [← zAa HP, ← zAa HW1]
 go_wp2_with fail
 refine (zAa HMY w1 (zAa HB1)).mono ?_
 rintro _ w2 ⟨rfl, hb2⟩
 have hz2 : Below w1.heap.size w1 w2 := hb2
 clear hb2
 go_wp2_with fail
 have hz3 : Below w1.heap.size w1 (w2.alloc (.cells #[.int .i64 a, .int .i64 b] 3)) := hz2.alloc hz2.size _
 refine (zAa HBR2 _ _ (Blk.new w2 _ _)).mono ?_
 rintro _ w3 ⟨rfl, hb3⟩
 have HB3 := hide ((zAa HB1).trans ((hz3.trans (hb3.mono hz3.size)).mono (zAa HB1).size))
 clear hb3 hz3
 go_wp2_with fail
 go_ret2
 exact zFw (zAa HPX) (zAa HB3)
theorem unp34 (bs : List Int) (q : Nat) (hq : q ≤ 4) : zBm (List.replicate (8 * q) 34) bs = if bs.length = 34 * q then ((List.range (8 * q)).map (fun k => ((slN bs k : Nat) : Int)), 0) else ([], 4) := by
 have hs : zDt (List.replicate (8 * q) 34) = (((34 * q : Nat) : Int), 0) := by
  unfold zDt
  rw [List.length_replicate, if_neg (by omega), zRc]
  congr 1
  omega
 have ht : zCm (List.replicate (8 * q) (34 : Int)) = 272 * q := by
  unfold zCm
  rw [List.map_replicate, List.sum_replicate_nat]
  show 8 * q * 34 = _
  omega
 unfold zBm
 rw [hs]
 dsimp only
 rw [if_neg (by simp)]
 by_cases h : bs.length = 34 * q
 ·rw [if_neg (by omega), if_pos h, if_pos (by
   unfold zLg
   rw [ht]
   simp
   intro k h1 h2
   omega)]
  congr 1
  apply List.ext_getElem?
  intro k
  by_cases hk : k < 8 * q
  ·have htw : zCm ((List.replicate (8 * q) (34 : Int)).take k) = 34 * k := by
    unfold zCm
    rw [List.take_replicate, List.map_replicate, List.sum_replicate_nat, Nat.min_eq_left (by omega)]
    show k * 34 = 34 * k
    omega
   rw [zSg bs _ 0 k 34 (by rw [List.getElem?_replicate, if_pos hk]), htw, Nat.zero_add]
   simp [hk, slN]
  ·rw [List.getElem?_eq_none (by rw [zKl, List.length_replicate]; omega), List.getElem?_eq_none (by simp; omega)]
 ·rw [if_pos (by omega), if_neg h]
theorem zRp (e : Ent) (w : World) (hv : 0 ≤ e.value ∧ e.value ≤ 255) (ht : 0 ≤ e.time ∧ e.time < 2097152) (hw : 0 ≤ e.who ∧ e.who ≤ 7) : Calls Tryz.prog 109 #[entV e] w fun x w' => x = .returned (.int .i64 (zDw e)) ∧ Below w.heap.size w w' := by
 obtain ⟨key, value, time, who, gone⟩ := e
 dsimp only at hv ht hw
 obtain ⟨value, rfl⟩ := Int.eq_ofNat_of_zero_le hv.1
 obtain ⟨time, rfl⟩ := Int.eq_ofNat_of_zero_le ht.1
 obtain ⟨who, rfl⟩ := Int.eq_ofNat_of_zero_le hw.1
 have key2 : ∀ a : Nat, a ≤ 3 → bits .or .i64 (wrap64 (bits .or .i64 (wrap64 (bits .or .i64 ((a * 2 ^ 8 : Nat) : Int) value * 2097152)) time * 8)) who = ((((a * 256 + value) * 2097152 + time) * 8 + who : Nat) : Int) := fun a ha => by
  rw [zHx 8 a value (by omega) (by omega) (by omega)]
  rw [show wrap64 (((a * 2 ^ 8 + value : Nat) : Int) * 2097152) = (((a * 256 + value) * 2 ^ 21 : Nat) : Int) by unfold wrap64; omega]
  rw [zHx 21 (a * 256 + value) time (by omega) (by omega) (by omega)]
  rw [show wrap64 ((((a * 256 + value) * 2 ^ 21 + time : Nat) : Int) * 8) = ((((a * 256 + value) * 2097152 + time) * 2 ^ 3 : Nat) : Int) by unfold wrap64; omega]
  rw [zHx 3 _ who (by omega) (by omega) (by omega)]
 unfold entV
 dsimp only
 have HB := hide (show Below w.heap.size w (w.alloc (.cells #[.int .i64 key, .int .i64 value, .int .i64 time, .int .i64 who, .bool gone] 125)) from (Below.refl _ _).alloc (Nat.le_refl _) _)
 cases gone
 ·have HS := hide (key2 2 (by omega))
  clear key2
  go_enter Tryz.func109, Tryz.ntmps109
  go_wp2_with fail
  go_ret
  exact ⟨zBn (zAa HS), zAa HB⟩
 ·have HS := hide (key2 3 (by omega))
  clear key2
  go_enter Tryz.func109, Tryz.ntmps109
  go_wp2_with fail
  go_ret
  exact ⟨zBn (zAa HS), zAa HB⟩
theorem mayP_one (e : Ent) : mayP [e] = oneP e := by
 unfold mayP
 simp [zEd, above]
theorem zVq (key n : Nat) (hn : n < 17179869184) (h : isN n = false) (h1 : 1 ≤ n / 4294967296) : zDw (decE key n) ≠ n := by
 unfold isN at h
 simp only [decide_eq_false_iff_not] at h
 unfold zDw zLw decE
 dsimp only
 simp only [Int.toNat_natCast, decide_eq_true_eq]
 split <;> omega
theorem zWl (key n : Nat) : zDw (decE key n) < 17179869184 := by
 unfold zDw zLw decE
 dsimp only
 simp only [Int.toNat_natCast, decide_eq_true_eq]
 split <;> omega
theorem OTb.new {w : World} {base g n : Nat} (h : Blk w g 103 (zBc n)) (hb : base ≤ g) : OTb w base g (List.replicate n EnR.nil) := by
 refine ⟨?_, fun r hr => ?_, fun i j ri rj hi hj _ => ?_, hb⟩
 ·rw [List.map_replicate]; exact h
 ·obtain rfl := List.eq_of_mem_replicate hr
  exact World.ownsRow_nil _ _ _ _
 ·obtain rfl := List.eq_of_mem_replicate (List.mem_of_getElem? hi)
  exact .inl rfl
end
section
open Go.RowKit
theorem zOd {w : World} {base size n : Nat} {e : TypeId} {v : Value} {xs : List Value} (h : w.ownsRow base e size v n xs) {g : Nat} {t : TypeId} {cs : Array Value} (hb : Blk w g t cs) (hne : e ≠ t) (i : Nat) (u : Value) : (w.setCell ⟨g, i, none⟩ u).ownsRow base e size v n xs :=
 zAk h (zAg (Only.refl _ w) i u) fun k hk hd => zAe h hb hne (by rw [hk, hd])
theorem OTb.grow {W w7 : World} {base g i pe g7 cap7 : Nat} {S : List EnR} {res : List Ent} {rA : Option Addr} {rc : Nat} {E : Ent} {cs : Array Value} (hT : OTb W base g S) (hi : S[i]? = some ⟨res, rA, rc⟩) (hK : Blk W pe 125 cs)
    (hne : ∀ k, (Value.slice rA res.length rc).ownBlock = some k → k ≠ pe) (hgp : g ≠ pe) (hgr : W.grownBy w7 (Value.slice rA res.length rc).ownBlock)
    (hown : w7.ownsRow base 125 5 (.slice (some ⟨g7, 0, none⟩) (res.length + 1) cap7) (res.length + 1) (res.flatMap zAd ++ zAd E)) (hat : some g7 = (Value.slice rA res.length rc).ownBlock ∨ g7 = W.heap.size + 1) :
    w7.cell? ⟨g, i, none⟩ = some (.slice rA res.length rc) ∧ w7.frozen? ⟨g, i, none⟩ = false ∧ (∀ u, Blk (w7.setCell ⟨g, i, none⟩ u) pe 125 cs) ∧ OTb (w7.setCell ⟨g, i, none⟩ (.slice (some ⟨g7, 0, none⟩) (res.length + 1) cap7)) base g (S.set i ⟨res ++ [E], some ⟨g7, 0, none⟩, cap7⟩) ∧ ∃ cs', Blk w7 g 103 cs' := by
 have hO := hT.rows _ (List.mem_of_getElem? hi)
 have hbk := hT.blk.grown hgr (zYr hO hT.blk (by decide))
 refine ⟨?_, hbk.frozen i, fun u => (hK.grown hgr (fun e => hne _ e.symm rfl)).far (fun e => hgp e.symm) u, ?_, _, hbk⟩
 ·rw [hbk.cell]
  simp [hi, EnR.val]
 ·have h := hT.push (r := ⟨res, rA, rc⟩) (r' := ⟨res ++ [E], some ⟨g7, 0, none⟩, cap7⟩) hi hgr (by simpa [EnR.val, List.flatMap_append] using hown) (by
   rcases hat with e | e
   ·exact .inl (by simpa [EnR.val, Value.ownBlock] using e)
   ·exact .inr ⟨g7, rfl, by omega⟩)
  simpa [EnR.val] using h
set_option maxRecDepth 100000 in
set_option maxHeartbeats 8000000 in
theorem yAf (c : Cfg) (a b : Nat) (bA : Option Addr) (bn bc : Nat) (bs : List Int) (B : Nat) (w : World) (hc : c.ok w B) (hB : B ≤ w.heap.size) (hbl : bs.length = bn) (hbn : bn ≤ bc) (hbm : bc ≤ maxLen) (hbr : Reads w B 1 bA bn (bs.map (.int .u8))) (hbz : ∀ z ∈ bs, 0 ≤ z ∧ z ≤ 255) (hcf : zAh c = true) (hab : brOk c a = true ∧ brOk c b = true) :
    Calls Tryz.prog 89 #[c.val, .int .i64 a, .int .i64 b, .slice bA bn bc] w (zJk (zBv c a b bs) w) := by
 obtain ⟨b1, b2, b3, b4⟩ := zKm hcf
 have ha8 : a ≤ 8 := by have := hab.1; unfold brOk at this; simp at this; omega
 have hb8 : b ≤ 8 := by have := hab.2; unfold brOk at this; simp at this; omega
 have HHP := hide (show zBv c a b bs = if bs.length ≠ 34 * (zAn a b c.la.zs 0).length then ([], 4) else if zHz bs (zAn a b c.la.zs 0).length = true then (zCl bs (zAn a b c.la.zs 0) c.la.zs.length (8 * (zAn a b c.la.zs 0).length), 0) else ([], 4) by
  unfold zBv
  rw [if_neg (by rw [hcf]; simp), if_neg (by rw [hab.1, hab.2]; simp), Int.toNat_natCast, Int.toNat_natCast])
 have hisl := zJg a b c.la.zs 0
 have hism := zGk a b c.la.zs 0
 have hnd := zHr a b c.la.zs 0
 have HMY := hide (fun W (hW : Below w.heap.size w W) => zEe c B W (hc.below (hW.mono hB)) (Nat.le_trans hB hW.size))
 rw [hcf] at HMY
 have HBR := hide (fun (W : World) (g : Nat) (hg : Blk W g 3 #[.int .i64 (a : Int), .int .i64 (b : Int)]) => zGa c (some ⟨g, 0, none⟩) 2 2 [(a : Int), (b : Int)] W.heap.size W (by omega) rfl (by unfold maxLen; omega) (by have := zCh (cs := [.int .i64 (a : Int), .int .i64 (b : Int)]) hg hg.lt; simpa using this) (Nat.le_refl _))
 rw [show [(a : Int), (b : Int)].all (brOk c) = true by simp [hab.1, hab.2]] at HBR
 have HSH := hide (fun (W : World) (hW : Below w.heap.size w W) => zKd c a b B W (hc.below (hW.mono hB)) (Nat.le_trans hB hW.size) (by omega) (by omega) b3 b4)
 obtain ⟨is, his⟩ : ∃ is, is = zAn a b c.la.zs 0 := ⟨_, rfl⟩
 rw [← his] at HHP HSH hisl hism hnd
 have hq4 : is.length ≤ 4 := by omega
 have hll := hc.1.1
 have HISM := hide (fun i (hi : i ∈ is) => show i < c.la.n by have := hism i hi; omega)
 have HBRD := hide (hbr.more hB)
 have HBZ := hide hbz
 have HBL := hide hbl
 have hln4 : c.la.n ≤ 4 := by omega
 rw [hll] at HHP
 obtain ⟨w1, hw1⟩ : ∃ w1, w1 = w.alloc (.cells c.cells.toArray 24) := ⟨_, rfl⟩
 have hb1 : Below w.heap.size w w1 := by rw [hw1]; exact (Below.refl _ _).alloc (Nat.le_refl _) _
 obtain ⟨p, hp⟩ : ∃ p, p = w.heap.size := ⟨_, rfl⟩
 have kb : Blk w1 p 24 c.cells.toArray := by rw [hw1, hp]; exact Blk.new w _ _
 have HB1 := hide hb1
 have HW1 := hide hw1
 have HP := hide hp
 have k0 := fun (W : World) (hz : Below w1.heap.size w1 W) => (kb.below hz kb.lt).cell 0
 have k1 := fun (W : World) (hz : Below w1.heap.size w1 W) => (kb.below hz kb.lt).cell 1
 have k2 := fun (W : World) (hz : Below w1.heap.size w1 W) => (kb.below hz kb.lt).cell 2
 have k3 := fun (W : World) (hz : Below w1.heap.size w1 W) => (kb.below hz kb.lt).cell 3
 have k4 := fun (W : World) (hz : Below w1.heap.size w1 W) => (kb.below hz kb.lt).cell 4
 have hz1 : Below w1.heap.size w1 w1 := Below.refl _ _
 obtain ⟨iE, hiE, hzE, hsE, hyE⟩ : ∃ i, Tryz.prog.info? 125 = some i ∧ i.zero = some (.agg #[.int .i64 0, .int .i64 0, .int .i64 0, .int .i64 0, .bool false]) ∧ i.size = 5 ∧ i.bytes = 40 := zEm (by kernel_rfl)
 obtain ⟨iL, hiL, zL, hzL, hcL, hsL, hyL⟩ : ∃ i, Tryz.prog.info? 103 = some i ∧ ∃ z, i.zero = some z ∧ z.cells.toList = [Value.slice none 0 0] ∧ i.size = 1 ∧ i.bytes = 24 := zGq (by kernel_rfl)
 obtain ⟨br, ⟨lA, ln, lc, ls⟩, tk, ⟨mA, mn, mc, ms⟩, cap⟩ := c
 dsimp only at HISM hln4 HHP
 have hmk := fun W => zDn (P := Tryz.prog) 78 103 iL _ Tryz.underlying78 hiL hzL .i64 .i64 ln ln (Nat.le_refl _) (by rw [hyL]; omega) (by omega) W
 rw [hsL, Nat.mul_one, zPh ln zL.cells hcL] at hmk
 have HMK := hide hmk
 have hbcm := hbm
 unfold maxLen at hbcm
 clear hb1 kb hp hw1 hc hcf hab b1 b2 b3 b4 his hisl hism hll hmk hzL hcL hsL hyL hiL hbr hbz hbl hbm
 unfold Cfg.cells at HW1 k0 k1 k2 k3 k4
 unfold Cfg.val at HMY HBR HSH ⊢
 dsimp only at HMY HBR HSH HW1 k0 k1 k2 k3 k4 ⊢
 simp only [List.getElem?_toArray, List.getElem?_cons_zero, List.getElem?_cons_succ] at k0 k1 k2 k3 k4
 obtain ⟨q, hq⟩ : ∃ q, q = is.length := ⟨_, rfl⟩
 rw [← hq] at hq4 HHP HSH
 have HQ := hide hq.symm
 have HND := hide hnd
 clear hq hnd
 go_enter Tryz.func89, Tryz.ntmps89
 go_upto_region 1 with fail
 rw [← zAa HP, ← zAa HW1]
 go_wp2_with fail
 refine (zAa HMY w1 (zAa HB1)).mono ?_
 rintro _ w2 ⟨rfl, hb2⟩
 have hz2 : Below w1.heap.size w1 w2 := hb2
 clear hb2
 go_wp2_with fail
 have hz3 : Below w1.heap.size w1 (w2.alloc (.cells #[.int .i64 a, .int .i64 b] 3)) := hz2.alloc hz2.size _
 refine (zAa HBR _ _ (Blk.new w2 _ _)).mono ?_
 rintro _ w3 ⟨rfl, hb3⟩
 have hz4 : Below w1.heap.size w1 w3 := hz3.trans (hb3.mono hz3.size)
 have HB3 := hide ((zAa HB1).trans (hz4.mono (zAa HB1).size))
 clear hb3 hz3 hz2
 go_wp2_with fail
 refine (zAa HSH _ (zAa HB3)).mono ?_
 rintro _ w5 ⟨v5, rfl, ho5, hb5⟩
 obtain ⟨A5, c5, rfl, _⟩ := zAf ho5
 have hz5 : Below w1.heap.size w1 w5 := hz4.trans (hb5.mono hz4.size)
 have HO5 := hide (zBr ho5 (zAa HB3).size)
 have HB5 := hide ((zAa HB3).trans (hb5.mono (zAa HB3).size))
 clear ho5 hb5 hz4
 go_upto_region 6 with fail
 obtain ⟨w6, hw6⟩ : ∃ w6, w6 = w5.alloc (.cells #[.int .i64 34] 3) := ⟨_, rfl⟩
 have hb6 : Below w5.heap.size w5 w6 := by rw [hw6]; exact (Below.refl _ _).alloc (Nat.le_refl _) _
 have k6 : Blk w6 w5.heap.size 3 #[.int .i64 34] := by rw [hw6]; exact Blk.new _ _ _
 have HRP := hide (zYo 34 (8 * q) w5.heap.size 1 w6 (by omega) k6.lt (k6.cell 0))
 have hmul : ((8 * q : Nat) : Int) = (q : Int) * 8 := by omega
 rw [hmul] at HRP
 have HW6 := hide hw6
 have HB6 := hide ((zAa HB5).trans (hb6.mono (zAa HB5).size))
 have hz6 : Below w1.heap.size w1 w6 := hz5.trans (hb6.mono hz5.size)
 have HO6 := hide (zAi (zAa HO5) hb6)
 clear hw6 hb6 k6 hmul hz5 hz1
 go_wp2_with fail
 rw [← zAa HW6]
 refine (zAa HRP).mono ?_
 rintro _ w7 ⟨A7, c7, rfl, hr7, hb7⟩
 have HB7 := hide ((zAa HB6).trans (hb7.mono (zAa HB6).size))
 have hz7 : Below w1.heap.size w1 w7 := hz6.trans (hb7.mono hz6.size)
 have HO7 := hide (zAi (zAa HO6) hb7)
 have HUP := hide (zLk A7 (8 * q) c7 (List.replicate (8 * q) 34) bA bn bc bs w7 (List.length_replicate ..) (by omega) hr7 (zAa HBL) (by omega) hbn (((zAa HBRD).below (zAa HB7)).more (zAa HB7).size) (zAa HBZ))
 rw [show zZi (List.replicate (8 * q) 34) bs w7 = fun e w => ∃ v, e = .returned (.tuple #[v, .int .i64 (zBm (List.replicate (8 * q) 34) bs).2]) ∧ w.ownsRow w7.heap.size 3 1 v (zBm (List.replicate (8 * q) 34) bs).1.length ((zBm (List.replicate (8 * q) 34) bs).1.map (.int .i64)) ∧ Below w7.heap.size w7 w from rfl, unp34 bs q hq4] at HUP
 clear hr7 hb7 hz6
 by_cases hlen : bs.length = 34 * q
 case neg =>
  have HR4 := hide (show zBv ⟨br, ⟨lA, ln, lc, ls⟩, tk, ⟨mA, mn, mc, ms⟩, cap⟩ a b bs = ([], 4) by rw [zAa HHP, if_pos hlen])
  rw [if_neg hlen] at HUP
  clear hlen
  go_wp2_with fail
  refine (zAa HUP).mono ?_
  rintro _ w8 ⟨v8, rfl, _, hb8'⟩
  have HB8 := hide ((zAa HB7).trans (hb8'.mono (zAa HB7).size))
  clear hb8'
  go_wp2_with fail
  go_ret2
  exact zFw (zAa HR4) (zAa HB8)
 have HHP2 := hide (show zBv ⟨br, ⟨lA, ln, lc, ls⟩, tk, ⟨mA, mn, mc, ms⟩, cap⟩ a b bs = if zHz bs q = true then (zCl bs is ln (8 * q), 0) else ([], 4) by rw [zAa HHP, if_neg (by rw [hlen]; simp)])
 rw [if_pos hlen] at HUP
 clear hlen HHP
 go_wp2_with fail
 refine (zAa HUP).mono ?_
 rintro _ w8 ⟨v8, rfl, ho8, hb8'⟩
 have HB8 := hide ((zAa HB7).trans (hb8'.mono (zAa HB7).size))
 have hz8 : Below w1.heap.size w1 w8 := hz7.trans (hb8'.mono hz7.size)
 have HO8 := hide (zAi (zAa HO7) hb8')
 rw [List.length_map, List.length_range] at ho8
 obtain ⟨A8, c8, rfl, _⟩ := zAf ho8
 have HV8 := hide (zBr ho8 (zAa HB7).size)
 clear ho8 hb8' hz7
 go_upto_region 9 with fail
 have hk8 := zAa HMK w8
 obtain ⟨w9, hw9⟩ : ∃ w9, w9 = w8.alloc (.cells (zBc ln) 103) := ⟨_, rfl⟩
 have hb9 : Below w8.heap.size w8 w9 := by rw [hw9]; exact (Below.refl _ _).alloc (Nat.le_refl _) _
 obtain ⟨g, hg⟩ : ∃ g, g = w8.heap.size := ⟨_, rfl⟩
 have k9 : Blk w9 g 103 (zBc ln) := by rw [hw9, hg]; exact Blk.new _ _ _
 have HT9 := hide (OTb.new k9 (show w.heap.size ≤ g by rw [hg]; exact (zAa HB8).size))
 have HB9 := hide ((zAa HB8).trans (hb9.mono (zAa HB8).size))
 have hz9 : Below w1.heap.size w1 w9 := hz8.trans (hb9.mono hz8.size)
 have HO9 := hide (zAi (zAa HO8) hb9)
 have HV9 := hide (zAi (zAa HV8) hb9)
 have HG := hide hg
 have HW9 := hide hw9
 rw [← hw9, ← hg] at hk8
 clear hw9 hb9 k9 hg
 go_upto_region 10 with fail
 clear hk8 hz8 hz9
 go_wp2_with fail
 have HB9' := zAa HB9
 go_loopw [52] (fun j W => ∃ (k : Nat) (S : List EnR), k ≤ 8 * q ∧ j = .int .i64 k ∧ Hid (OTb W w.heap.size g S) ∧ Hid (S.map EnR.es = zCl bs is ln k) ∧ Hid (∀ j, j < k → zGz (j % 8) (slN bs j) = true) ∧ Hid (W.ownsRow w.heap.size 3 1 (.slice A5 q c5) q (is.map fun i => Value.int .i64 ((i : Nat) : Int))) ∧ Hid (W.ownsRow w.heap.size 3 1 (.slice A8 (8 * q) c8) (8 * q) (((List.range (8 * q)).map (fun k => ((slN bs k : Nat) : Int))).map (.int .i64))) ∧ Below w.heap.size w W) (fun j _ => 8 * q - (intOf j).toNat)
 case atStart => exact ⟨0, _, Nat.zero_le _, rfl, HT9, hide (by simp [zCl, EnR.nil]), hide (fun j h => by omega), HO9, HV9, HB9'⟩
 case round =>
  obtain ⟨k, S, hk, rfl, HT, HSR, HGD, HI, HV, hz⟩ := hrel
  by_cases hlt : k < 8 * q
  ·obtain ⟨bv, ov, z, rfl, _, hzv, hcv⟩ := zDd (Reads.of_own (zAa HV)) hlt
   obtain rfl : z = ((slN bs k : Nat) : Int) := by simp [hlt] at hzv; exact hzv.symm
   have hi : is[k / 8]? = some (is[k / 8]'(by rw [zAa HQ]; omega)) := List.getElem?_eq_getElem _
   generalize is[k / 8]'(by rw [zAa HQ]; omega) = i at hi
   have hiln := zAa HISM i (List.mem_of_getElem? hi)
   have HRN := hide (show zCl bs is ln (k + 1) = if isN (slN bs k) then zLs (zCl bs is ln k) i (decE (k % 8) (slN bs k)) else zCl bs is ln k by
    rw [zCl, List.getD_eq_getElem?_getD, hi]; rfl)
   obtain ⟨bi, oi, i', hA5, _, hi', hci⟩ := zMq (fun i : Nat => Value.int .i64 ((i : Nat) : Int)) (Reads.of_own (zAa HI)) (show k / 8 < q by omega)
   obtain rfl : i' = i := by rw [hi] at hi'; cases hi'; rfl
   subst hA5
   have HBAD := hide (show zGz (k % 8) (slN bs k) = false → zBv ⟨br, ⟨lA, ln, lc, ls⟩, tk, ⟨mA, mn, mc, ms⟩, cap⟩ a b bs = ([], 4) from fun h => by
    rw [zAa HHP2, if_neg]
    intro hga
    have := List.all_eq_true.1 hga k (List.mem_range.2 hlt)
    rw [h] at this
    cases this)
   have HGD2 := hide (show zGz (k % 8) (slN bs k) = true → ∀ j, j < k + 1 → zGz (j % 8) (slN bs j) = true from fun h j hj => by
    rcases Nat.lt_or_ge j k with h1 | h1
    ·exact zAa HGD j h1
    ·obtain rfl : j = k := by omega
     exact h)
   have hnlt := slN_lt bs k
   obtain ⟨n, hn⟩ : ∃ n, n = slN bs k := ⟨_, rfl⟩
   rw [← hn] at hcv HRN HBAD HGD2 hnlt
   have hkq : (k : Int) < ((8 * q : Nat) : Int) := by omega
   have HEN := hide (show Calls Tryz.prog 114 #[.int .i64 ((k : Int) % 8), .int .i64 n] wr fun e w' => e = .returned (.tuple #[entV (decE (k % 8) n), .bool (decide (1 ≤ n / 4294967296))]) ∧ Below wr.heap.size wr w' by
    have h := zRo (k % 8) n wr (by omega) hnlt
    rw [show ((k : Int) % 8) = ((k % 8 : Nat) : Int) by omega]
    exact h)
   have hsi : S[i']? = some (S[i']'(by have h := congrArg List.length (zAa HSR); rw [List.length_map, zHe] at h; omega)) := List.getElem?_eq_getElem _
   generalize S[i']'(by have h := congrArg List.length (zAa HSR); rw [List.length_map, zHe] at h; omega) = r at hsi
   have hgd : (zCl bs is ln k).getD i' [] = r.es := by rw [← zAa HSR, List.getD_eq_getElem?_getD, List.getElem?_map, hsi]; rfl
   obtain ⟨E, hE⟩ : ∃ E, E = decE (k % 8) n := ⟨_, rfl⟩
   have hEv : (0 ≤ E.value ∧ E.value ≤ 255) ∧ (0 ≤ E.time ∧ E.time < 2097152) ∧ (0 ≤ E.who ∧ E.who ≤ 7) := by rw [hE]; simp only [decE]; omega
   have HSL := hide (fun W => zRp E W hEv.1 hEv.2.1 hEv.2.2)
   have hslt : zDw E < 17179869184 := by rw [hE]; exact zWl _ _
   have HSD := hide (show isN n = true → zDw E = n from fun h => by rw [hE]; exact yDi _ n hnlt h)
   have HSN := hide (show isN n = false → 1 ≤ n / 4294967296 → zDw E ≠ n from fun h h1 => by rw [hE]; exact zVq _ n hnlt h h1)
   have HGOOD := hide (show zGz (k % 8) n = (decide (n = 0) || (isN n && oneP E)) by rw [hE]; rfl)
   rw [← hE] at HEN HRN
   have hilt : (i' : Int) < (ln : Int) := by omega
   have hk8 : (k : Int) / 8 = ((k / 8 : Nat) : Int) := by omega
   have HK8 := hide hk8
   obtain ⟨ek, ev, et, ew, eg⟩ := E
   unfold entV at HEN HSL
   dsimp only at HEN HSL
   have HHI := hide hsi
   have HGDR := hide hgd
   have HINUM := hide hi
   clear hzv hi hi' hn hsi hgd hE hEv hk8 hiln HGD
   have g5 : ∀ W, Below wr.heap.size wr W → W.cell? ⟨bi, oi + k / 8, none⟩ = some (.int .i64 i') := fun W hW => Ext.cell ⟨W, hW⟩ hci
   have g6 : ∀ W, Below wr.heap.size wr W → W.cell? ⟨g, i', none⟩ = some r.val := fun W hW => Ext.cell ⟨W, hW⟩ ((zAa HT).cell (zAa HHI))
   obtain ⟨res, rA, rc⟩ := r
   unfold EnR.val at g6
   dsimp only at g6 HGDR
   have HROW := hide ((zAa HT).rows _ (List.mem_of_getElem? (zAa HHI)))
   have hrl : res.length ≤ 8 := by
    rw [← zAa HGDR, (zKi bs is ln q (zAa HQ) (zAa HND) (zAa HISM) k hk).1 (k / 8) i' (zAa HINUM)]
    exact Nat.le_trans (zKn _ _ _) (Nat.min_le_left _ _)
   have HRL := hide hrl
   clear hci hrl
   by_cases h1 : 1 ≤ n / 4294967296
   ·have hd1 : decide (1 ≤ n / 4294967296) = true := by simpa using h1
    rw [hd1] at HEN
    go_wp2_with fail
    refine (zAa HEN).mono ?_
    rintro _ wa ⟨rfl, hba⟩
    obtain ⟨wb, hwb⟩ : ∃ wb, wb = wa.alloc (.cells #[.int .i64 ek, .int .i64 ev, .int .i64 et, .int .i64 ew, .bool eg] 125) := ⟨_, rfl⟩
    have hbb : Below wr.heap.size wr wb := by rw [hwb]; exact hba.alloc hba.size _
    obtain ⟨pe, hpe⟩ : ∃ pe, pe = wa.heap.size := ⟨_, rfl⟩
    have kE : Blk wb pe 125 #[.int .i64 ek, .int .i64 ev, .int .i64 et, .int .i64 ew, .bool eg] := by rw [hwb, hpe]; exact Blk.new _ _ _
    have HWB := hide hwb
    have HPE := hide hpe
    have HPA := hide hba.size
    have HGP := hide (show g ≠ pe by have := (zAa HT).blk.lt; have := hba.size; omega)
    have HKE := hide kE
    clear hwb hpe kE hba
    go_upto_region 15 with fail
    rw [← zAa HWB, ← zAa HPE]
    go_upto_region 16 with fail
    have s0 := fun n : Ext wb => n.cell (v := .int .i64 ek) ((zAa HKE).cell 0)
    have s1 := fun n : Ext wb => n.cell (v := .int .i64 ev) ((zAa HKE).cell 1)
    have s2 := fun n : Ext wb => n.cell (v := .int .i64 et) ((zAa HKE).cell 2)
    have s3 := fun n : Ext wb => n.cell (v := .int .i64 ew) ((zAa HKE).cell 3)
    have s4 := fun n : Ext wb => n.cell (v := .bool eg) ((zAa HKE).cell 4)
    have s5 := fun n : Ext wb => n.cell (g6 wb hbb)
    refine zEp [0, 1] [2, 3, 4, 5, 6] [] [7] 8 [9, 10] (by kernel_rfl) (by kernel_rfl) (by intro c a d v w h; cases d <;> exact h) ?_
    simp only [zAb, List.map_cons, List.map_nil, List.getD_cons_zero, List.getD_cons_succ]
    repeat (go_big_quiet_step (fail))
    refine wpQuiet_nil ?_
    repeat (go_big_quiet_step (fail))
    refine wpQuiet_nil (wpQuiet_nil ?_)
    rintro W ⟨nq, hW⟩
    have hWB : Below wr.heap.size wr W := hbb.trans ((hW ▸ nq.h : Below wb.heap.size wb W).mono hbb.size)
    have kW : Blk W pe 125 #[.int .i64 ek, .int .i64 ev, .int .i64 et, .int .i64 ew, .bool eg] := (zAa HKE).below (hW ▸ nq.h : Below wb.heap.size wb W) (zAa HKE).lt
    have hnq : Below wb.heap.size wb W := hW ▸ nq.h
    clear hW nq s0 s1 s2 s3 s4 s5
    simp only [wpAl]
    have HKW := hide kW
    have HTW := hide ((zAa HT).calm hWB)
    have HRW := hide (zAi (zAa HROW) hWB)
    have hzW := hz.trans (hWB.mono hz.size)
    have hsW := hzW.size
    have HIW := hide (zAi (zAa HI) hWB)
    have HVW := hide (zAi (zAa HV) hWB)
    have hfg := (zAa HTW).blk.frozen i'
    have hmq : (res.length + 1) * 40 ≤ 140737488355328 := by have := zAa HRL; omega
    have hown : W.ownsRow w.heap.size 125 5 (.slice rA res.length rc) res.length (res.flatMap zAd) := zAa HRW
    have hpne : ∀ k', (Value.slice rA res.length rc).ownBlock = some k' → k' ≠ pe := fun k' hk' => by
     have := ((zAa HROW).lt k' hk').2
     have := zAa HPE
     have := zAa HPA
     omega
    have HOWN := hide hown
    have HPNE := hide hpne
    have HWS := hide hsW
    have HMQ := hide hmq
    clear kW hown hpne hmq
    go_wp2_with fail
    refine ⟨⟨⟨_, hnq.alloc hnq.size _⟩, rfl⟩, ?_⟩
    clear hnq
    have hsW' := hzW.size
    have HZW := hide hzW
    clear hzW
    go_wp2_with (first
     | (at_builtin; (refine zAl W rfl (.tmp 76) (.tmp 78) _ rfl w.heap.size 125 iE _ 5 40 Tryz.underlying103 hiE hzE hsE hyE rfl (by omega) (by omega) _ _ _ (zAa HOWN) rfl _ 1 _ rfl rfl rfl (by simp [Value.oneCell']) (zAa HMQ) hsW' ?_); intro g7 cap7 w7 hg7 hown7 hbel7 hgr7 hat7
        obtain ⟨u0, u1, hpe8, ht8, _, hb7⟩ := (zAa HTW).grow (E := ⟨ek, ev, et, ew, eg⟩) (zAa HHI) (zAa HKW) (zAa HPNE) (zAa HGP) hgr7 hown7 hat7
        have HPE8 := hide hpe8
        have v0 := fun u => (hpe8 u).cell 0
        have v1 := fun u => (hpe8 u).cell 1
        have v2 := fun u => (hpe8 u).cell 2
        have v3 := fun u => (hpe8 u).cell 3
        have v4 := fun u => (hpe8 u).cell 4
        have HT8 := hide ht8
        have HZ7 := hide (hbel7 w.heap.size w (Nat.le_refl _) (zAa HZW))
        have HI7 := hide (zOd (zDe (zAa HIW) (zAa HOWN) (by decide) hgr7) hb7 (by decide) i' (.slice (some ⟨g7, 0, none⟩) (res.length + 1) cap7))
        have HV7 := hide (zOd (zDe (zAa HVW) (zAa HOWN) (by decide) hgr7) hb7 (by decide) i' (.slice (some ⟨g7, 0, none⟩) (res.length + 1) cap7))
        clear hb7 hg7 hown7 hbel7 hgr7 hat7 hpe8 ht8))
    refine (zAa HSL _).mono ?_
    rintro _ wc ⟨rfl, hbc⟩
    obtain ⟨w8, hw8⟩ : ∃ w8, w8 = w7.setCell ⟨g, i', none⟩ (.slice (some ⟨g7, 0, none⟩) (res.length + 1) cap7) := ⟨_, rfl⟩
    have HT9 := zAa HT8
    have HP9 := zAa HPE8 (.slice (some ⟨g7, 0, none⟩) (res.length + 1) cap7)
    have HZ8 := (zAa HZ7).setCell (p := ⟨g, i', none⟩) (by have := (zAa HTW).low; exact this) (.slice (some ⟨g7, 0, none⟩) (res.length + 1) cap7)
    have HI8 := zAa HI7
    have HV8 := zAa HV7
    rw [← hw8] at HT9 HP9 HZ8 HI8 HV8 hbc
    have HTc := hide (HT9.calm hbc)
    have hPc := HP9.below hbc HP9.lt
    have HZc := hide (HZ8.trans (hbc.mono HZ8.size))
    have HIc := hide (zAi HI8 hbc)
    have HVc := hide (zAi HV8 hbc)
    have HPc := hide hPc
    have x0 := hPc.cell 0
    have x1 := hPc.cell 1
    have x2 := hPc.cell 2
    have x3 := hPc.cell 3
    have x4 := hPc.cell 4
    clear HT9 HP9 HZ8 HI8 HV8 hbc hPc hw8 HT8 HPE8 HZ7 HI7 HV7 v0 v1 v2 v3 v4 u0 u1
    by_cases hisn : isN n = true
    ·have HME := hide (show ∀ W, Below wc.heap.size wc W → Calls Tryz.prog 107 #[.slice (some ⟨wc.heap.size, 0, none⟩) 1 1] (wc.alloc (.cells #[.int .i64 ek, .int .i64 ev, .int .i64 et, .int .i64 ew, .bool eg] 125)) fun e w' => e = .returned (.bool (oneP ⟨ek, ev, et, ew, eg⟩)) ∧ Below wc.heap.size wc w' from fun W hW => by
      have h := zJb (some ⟨wc.heap.size, 0, none⟩) 1 1 [⟨ek, ev, et, ew, eg⟩] _ (wc.alloc (.cells #[.int .i64 ek, .int .i64 ev, .int .i64 et, .int .i64 ew, .bool eg] 125)) rfl (by unfold maxLen; omega) (yBq (Blk.new wc 125 _) 5 1 rfl) (Nat.le_refl _)
      rw [mayP_one] at h
      refine h.mono ?_
      rintro e w' ⟨rfl, h2⟩
      exact ⟨rfl, ((Below.refl _ _).alloc (Nat.le_refl _) _).trans (h2.mono (by simp))⟩)
     have hsl := zAa HSD hisn
     have hsl' : (((zDw ⟨ek, ev, et, ew, eg⟩ : Nat) : Int) != (n : Int)) = false := by rw [hsl]; simp
     go_wp2_with fail
     refine (zAa HME wc (Below.refl _ _)).mono ?_
     rintro _ wd ⟨rfl, hbd⟩
     have HTd := hide ((zAa HTc).calm hbd)
     have HZd := hide ((zAa HZc).trans (hbd.mono (zAa HZc).size))
     have HId := hide (zAi (zAa HIc) hbd)
     have HVd := hide (zAi (zAa HVc) hbd)
     clear hbd
     by_cases hone : oneP ⟨ek, ev, et, ew, eg⟩ = true
     ·have HRN2 := hide (show zCl bs is ln (k + 1) = zLs (zCl bs is ln k) i' ⟨ek, ev, et, ew, eg⟩ by rw [zAa HRN, if_pos hisn])
      have HGK := hide (zAa HGD2 (by rw [zAa HGOOD, hisn, hone]; simp))
      have HGE := hide (show (zCl bs is ln k).getD i' [] = res from zAa HGDR)
      rw [hone]
      clear hone hisn
      go_wp2_with fail
      go_roundw
      case rel => exact ⟨k + 1, _, by omega, by go_num, HTd, hide (by rw [zAa HRN2, zLs, zAa HGE, List.map_set, zAa HSR]), HGK, HId, HVd, zAa HZd⟩
      case measure => simp [intOf]; omega
     ·have hone' : oneP ⟨ek, ev, et, ew, eg⟩ = false := by simpa using hone
      have HR4 := hide (zAa HBAD (by rw [zAa HGOOD, hisn, hone']; simp; intro hn; rw [hn] at h1; simp at h1))
      rw [hone']
      clear hone hone' hisn
      go_wp2_with fail
      go_ret2
      exact zFw (zAa HR4) (zAa HZd)
    ·have hsl := zAa HSN (by simpa using hisn) h1
     have hsl' : (((zDw ⟨ek, ev, et, ew, eg⟩ : Nat) : Int) != (n : Int)) = true := by simp; omega
     have HR4 := hide (zAa HBAD (by rw [zAa HGOOD]; simp [hisn]; unfold isN at hisn; intro hn; rw [hn] at h1; simp at h1))
     go_wp2_with fail
     go_ret2
     exact zFw (zAa HR4) (zAa HZc)
   ·have hd1 : decide (1 ≤ n / 4294967296) = false := by simpa using h1
    rw [hd1] at HEN
    by_cases h0 : n = 0
    ·have hisn : isN n = false := by unfold isN; simp; omega
     have HRN2 := hide (show zCl bs is ln (k + 1) = zCl bs is ln k by rw [zAa HRN, if_neg (by rw [hisn]; simp)])
     have HGK := hide (zAa HGD2 (by rw [zAa HGOOD, h0]; rfl))
     clear hisn
     subst h0
     go_wp2_with fail
     refine (zAa HEN).mono ?_
     rintro _ wa ⟨rfl, hba⟩
     have hbb : Below wr.heap.size wr (wa.alloc (.cells #[.int .i64 ek, .int .i64 ev, .int .i64 et, .int .i64 ew, .bool eg] 125)) := hba.alloc hba.size _
     have HTB := hide ((zAa HT).calm hbb)
     have HIB := hide (zAi (zAa HI) hbb)
     have HVB := hide (zAi (zAa HV) hbb)
     have HZB := hide (hz.trans (hbb.mono hz.size))
     clear hba hbb
     go_wp2_with fail
     go_roundw
     case rel => exact ⟨k + 1, S, by omega, by go_num, HTB, hide (by rw [zAa HRN2]; exact zAa HSR), HGK, HIB, HVB, zAa HZB⟩
     case measure => simp [intOf]; omega
    ·have hisn : isN n = false := by unfold isN; simp; omega
     have HR4 := hide (zAa HBAD (by rw [zAa HGOOD, hisn]; simpa using h0))
     have hn0 : (n != 0) = true := by simpa using h0
     have hn1 : ((n : Int) != 0) = true := by simp; omega
     clear hisn
     go_wp2_with fail
     refine (zAa HEN).mono ?_
     rintro _ wa ⟨rfl, hba⟩
     have HZB := hide (hz.trans ((hba.alloc hba.size (.cells #[.int .i64 ek, .int .i64 ev, .int .i64 et, .int .i64 ew, .bool eg] 125)).mono hz.size))
     clear hba
     go_wp2_with fail
     go_ret2
     exact zFw (zAa HR4) (zAa HZB)
  ·obtain rfl : k = 8 * q := by omega
   have HFI := hide (show zBv ⟨br, ⟨lA, ln, lc, ls⟩, tk, ⟨mA, mn, mc, ms⟩, cap⟩ a b bs = (zCl bs is ln (8 * q), 0) by
    rw [zAa HHP2, if_pos]
    unfold zHz
    rw [List.all_eq_true]
    intro j hj
    exact zAa HGD j (List.mem_range.1 hj))
   have hSl : S.length = ln := by have h := congrArg List.length (zAa HSR); rw [List.length_map, zHe] at h; exact h
   have HSL := hide hSl
   clear hSl
   go_wp2_with fail
   go_ret2
   unfold zJk
   rw [zAa HFI]
   refine ⟨⟨S, some ⟨g, 0, none⟩, ln⟩, by unfold TabR.val; dsimp only; rw [zAa HSL]; rfl, zAa HSR, ⟨?_, fun r hr => Reads.of_own ((zAa HT).rows r hr)⟩, hz, Or.inr ⟨g, (zAa HT).low, rfl, (zAa HT).blk⟩, (zAa HT).rows⟩
   dsimp only
   have h := zCh (zAa HT).blk (zAa HT).blk.lt
   simpa using h
end
section
open Go.RowKit
theorem yDh (c : Cfg) (a b : Int) (bA : Option Addr) (bn bc : Nat) (bs : List Int) (B : Nat) (w : World) (hc : c.ok w B) (hB : B ≤ w.heap.size) (hbl : bs.length = bn) (hbn : bn ≤ bc) (hbm : bc ≤ maxLen) (hbr : Reads w B 1 bA bn (bs.map (.int .u8))) (hbz : ∀ z ∈ bs, 0 ≤ z ∧ z ≤ 255) :
    Calls Tryz.prog 89 #[c.val, .int .i64 a, .int .i64 b, .slice bA bn bc] w (zJk (zBv c a b bs) w) := by
 by_cases h : zAh c = true ∧ (brOk c a = true ∧ brOk c b = true)
 ·obtain ⟨h1, h2⟩ := h
  have ha : 0 ≤ a := by have := h2.1; unfold brOk at this; simp at this; omega
  have hb : 0 ≤ b := by have := h2.2; unfold brOk at this; simp at this; omega
  obtain ⟨a, rfl⟩ := Int.eq_ofNat_of_zero_le ha
  obtain ⟨b, rfl⟩ := Int.eq_ofNat_of_zero_le hb
  exact yAf c a b bA bn bc bs B w hc hB hbl hbn hbm hbr hbz h1 h2
 ·exact zYn c a b bA bn bc bs B w hc hB h
end
end Go.Proofs.YtbolcebmbpepdaaGreatDoor
