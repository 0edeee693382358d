/- Contracts and plain facts, set together by program out of smaller texts. Conditions: none beyond what each theorem states. -/
import Derived.Test.YtbolcebmbpepdaaDoorM19
import Derived.Test.YtbolcebmbpepdaaDoorM11
import Derived.Test.YtbolcebmbpepdaaDoorM05
import Derived.Test.YtbolcebmbpepdaaDoorM07
import Derived.Test.YtbolcebmbpepdaaDoorM02
namespace Go.Proofs.YtbolcebmbpepdaaDoor
set_option linter.unusedVariables false
section
open Go.RowKit
theorem and_low (n k : Nat) (hn : n < 9223372036854775808) (hk : k ≤ 62) : bits .and .i64 (n : Int) ((2 ^ k - 1 : Nat) : Int) = ((n % 2 ^ k : Nat) : Int) := by
  have hp : (2:Nat) ^ k ≤ 2 ^ 62 := Nat.pow_le_pow_right (by omega) hk
  rw [i64_and_nat _ _ hn (by omega), Nat.and_two_pow_sub_one_eq_mod]
set_option maxHeartbeats 1000000 in
theorem frameEntry_any (key n : Nat) (w : World) (hk : key ≤ 1000) (hn : n < 17179869184) : Calls Tryd.prog 61 #[.int .i64 key, .int .i64 n] w fun e w' => e = .returned (.tuple #[entV (decE key n), .bool (decide (1 ≤ n / 4294967296))]) ∧ Below w.heap.size w w' := by
  have h7 : bits .and .i64 (n : Int) 7 = ((n % 8 : Nat) : Int) := and_low n 3 (by omega) (by omega)
  have h21 : bits .and .i64 ((n : Int) / 8) 2097151 = ((n / 8 % 2097152 : Nat) : Int) := by
    have := and_low (n / 8) 21 (by omega) (by omega)
    rw [show ((n : Int) / 8) = ((n / 8 : Nat) : Int) by omega]
    exact this
  have h8 : bits .and .i64 ((n : Int) / 8 / 2097152) 255 = ((n / 16777216 % 256 : Nat) : Int) := by
    have := and_low (n / 16777216) 8 (by omega) (by omega)
    rw [show ((n : Int) / 8 / 2097152) = ((n / 16777216 : Nat) : Int) by omega]
    exact this
  have hg : (((n : Int) / 8 / 2097152 / 256) == 3) = decide (n / 4294967296 = 3) := by rw [Bool.eq_iff_iff]; simp; omega
  have hp : decide ((0 : Int) < (n : Int) / 8 / 2097152 / 256) = decide (1 ≤ n / 4294967296) := by rw [Bool.eq_iff_iff]; simp; omega
  have HB := hide (fun cs => show Below w.heap.size w (w.alloc (.cells cs 131)) from (Below.refl _ _).alloc (Nat.le_refl _) _)
  have H7 := hide h7
  have H21 := hide h21
  have H8 := hide h8
  have HG := hide hg
  have HP := hide hp
  clear h7 h21 h8 hg hp
  go_enter Tryd.func61, Tryd.ntmps61
  go_wp2_with fail
  refine bodyPost_ret (v := .tuple #[.agg #[.int .i64 key, .int .i64 (bits .and .i64 ((n : Int) / 8 / 2097152) 255), .int .i64 (bits .and .i64 ((n : Int) / 8) 2097151), .int .i64 (bits .and .i64 (n : Int) 7), .bool (((n : Int) / 8 / 2097152 / 256) == 3)], .bool (decide ((0 : Int) < (n : Int) / 8 / 2097152 / 256))]) (by simp [results, Tryd.results61, go_sem]) rfl ⟨?_, unhide HB _⟩
  rw [unhide H7, unhide H21, unhide H8, unhide HG, unhide HP]
  rfl
/-- a table of rows of entries, all of the call's own, no two in one block -/
structure OTb (w : World) (base g : Nat) (S : List EnR) : Prop where
  blk : Blk w g 111 (S.map EnR.val).toArray
  rows : ∀ r ∈ S, w.ownsRow base 131 5 r.val r.es.length (r.es.flatMap entCells)
  apart : ∀ (i j : Nat) (ri rj : EnR), S[i]? = some ri → S[j]? = some rj → i ≠ j → ri.val.ownBlock = none ∨ ri.val.ownBlock ≠ rj.val.ownBlock
  low : base ≤ g
section
variable {w w' : World} {base g : Nat} {S : List EnR}
theorem OTb.only {D : Nat → Prop} (h : OTb w base g S) (ho : Only D w w') (h1 : ¬ D g) (h2 : ∀ r ∈ S, ∀ k, r.val.ownBlock = some k → ¬ D k) : OTb w' base g S :=
  ⟨h.blk.only ho h1, fun r hr => own_only (h.rows r hr) ho (h2 r hr), h.apart, h.low⟩
theorem OTb.calm (h : OTb w base g S) (hb : Below w.heap.size w w') : OTb w' base g S :=
  h.only (D := fun _ => False) (Only.of_below hb (fun x h1 h2 => by omega)) (fun e => e) (fun _ _ _ _ e => e)
theorem OTb.own (h : OTb w base g S) {base' : Nat} {e : TypeId} {size k : Nat} {v : Value} {xs : List Value} (hv : w.ownsRow base' e size v k xs) (he : e ≠ 111 ∧ e ≠ 131) (hg : w.grownBy w' v.ownBlock) : OTb w' base g S :=
  h.only ((Only.refl _ _).grown hg (D := fun k => v.ownBlock = some k) (fun g hg _ => hg)) (own_blk_ne hv h.blk he.1) fun r hr k hk hd => by
    rcases own_own_ne hv (h.rows r hr) he.2 with e1 | e1
    · rw [e1] at hd; cases hd
    · exact e1 (by rw [hk, hd])
theorem OTb.cell (h : OTb w base g S) {i : Nat} {r : EnR} (hi : S[i]? = some r) : w.cell? ⟨g, i, none⟩ = some r.val := by
  rw [h.blk.cell i]
  simp [hi]
/-- a row grows, and is stored again -/
theorem OTb.push (h : OTb w base g S) {i : Nat} {r r' : EnR} (hi : S[i]? = some r) (hg : w.grownBy w' r.val.ownBlock) (ho : w'.ownsRow base 131 5 r'.val r'.es.length (r'.es.flatMap entCells)) (hat : r'.val.ownBlock = r.val.ownBlock ∨ ∃ k, r'.val.ownBlock = some k ∧ w.heap.size ≤ k) :
    OTb (w'.setCell ⟨g, i, none⟩ r'.val) base g (S.set i r') := by
  have h1 : Only (fun k => r.val.ownBlock = some k) w w' := (Only.refl _ _).grown hg (fun g hg _ => hg)
  have h2 : Only (fun k => k = g) w' (w'.setCell ⟨g, i, none⟩ r'.val) := only_put (Only.refl _ _) _ _
  have hrr := h.rows r (List.mem_of_getElem? hi)
  have hb1 := h.blk.only h1 (fun e => own_blk_ne hrr h.blk (by decide) e)
  have hother : ∀ (j : Nat) (rj : EnR), S[j]? = some rj → i ≠ j → (w'.setCell ⟨g, i, none⟩ r'.val).ownsRow base 131 5 rj.val rj.es.length (rj.es.flatMap entCells) := fun j rj hj hij => by
    have hrj := h.rows rj (List.mem_of_getElem? hj)
    refine own_only (own_only hrj h1 fun k hk hd => ?_) h2 fun k hk e => ?_
    · rcases h.apart i j r rj hi hj hij with e | e
      · rw [e] at hd; cases hd
      · exact e (by rw [hd, hk])
    · exact own_blk_ne hrj h.blk (by decide) (by rw [hk, e])
  have hself : (w'.setCell ⟨g, i, none⟩ r'.val).ownsRow base 131 5 r'.val r'.es.length (r'.es.flatMap entCells) := own_only ho h2 fun k hk e => own_blk_ne ho hb1 (by decide) (by rw [hk, e])
  have hil := (List.getElem?_eq_some_iff.1 hi).1
  refine ⟨?_, fun x hx => ?_, fun a b ra rb ha hb hab => ?_, h.low⟩
  · have := hb1.set_ i r'.val
    have e : (S.map EnR.val).toArray.setIfInBounds i r'.val = ((S.set i r').map EnR.val).toArray := by
      rw [← Array.toList_inj]
      simp [List.map_set]
    rwa [e] at this
  · obtain ⟨j, hj⟩ := List.mem_iff_getElem?.1 hx
    by_cases hij : i = j
    · subst hij
      rw [List.getElem?_set_self hil] at hj
      cases hj
      exact hself
    · rw [List.getElem?_set_ne hij] at hj
      exact hother j x hj hij
  · have fresh : ∀ (j : Nat) (rj : EnR), S[j]? = some rj → i ≠ j → (r'.val.ownBlock = none ∨ r'.val.ownBlock ≠ rj.val.ownBlock) ∧ (rj.val.ownBlock = none ∨ rj.val.ownBlock ≠ r'.val.ownBlock) := fun j rj hj hij => by
      rcases hat with e | ⟨k, hk, hkl⟩
      · rw [e]
        exact ⟨h.apart i j r rj hi hj hij, h.apart j i rj r hj hi (fun e => hij e.symm)⟩
      · have hlt := (h.rows rj (List.mem_of_getElem? hj)).lt
        refine ⟨.inr fun e => ?_, ?_⟩
        · rw [hk] at e
          have := (hlt k e.symm).2
          omega
        · right
          intro e
          rw [hk] at e
          have := (hlt k e).2
          omega
    by_cases hai : i = a
    · subst hai
      rw [List.getElem?_set_self hil] at ha
      cases ha
      rw [List.getElem?_set_ne hab] at hb
      exact (fresh b rb hb hab).1
    · rw [List.getElem?_set_ne hai] at ha
      by_cases hbi : i = b
      · subst hbi
        rw [List.getElem?_set_self hil] at hb
        cases hb
        exact (fresh a ra ha hai).2
      · rw [List.getElem?_set_ne hbi] at hb
        exact h.apart a b ra rb ha hb hab
end
set_option maxRecDepth 100000 in
theorem repeat_zero (v : Int) (g0 c0 : Nat) (w : World) (hg : g0 < w.heap.size) (hv : w.cell? ⟨g0, 0, none⟩ = some (.int .i64 v)) :
    Calls Tryd.prog 57 #[.slice (some ⟨g0, 0, none⟩) 1 c0, .int .i64 0] w fun e w' => ∃ A c, e = .returned (.slice A 0 c) ∧ Below w.heap.size w w' := by
  obtain ⟨i0, hi, hz0, hz1, hz2⟩ := int_info
  have hmk := fun W => run_make_rowN (P := Tryd.prog) 22 3 i0 _ Tryd.underlying22 hi hz0 .i64 .i64 0 0 (Nat.le_refl _) (by rw [hz2]; omega) (by omega) W
  rw [hz1] at hmk
  have H := mul_one 0 (by omega) w
  simp only [Int.cast_ofNat_Int] at H hmk
  have H := hide H
  have hcp : ∀ (W : World) (g c ty : Nat), (Builtin.copy_ #[22, 22] ty #[.slice (some ⟨g, 0, none⟩) 0 c, .slice (some ⟨g0, 0, none⟩) 1 c0]).run Tryd.prog W = .ok (.int .i64 0) W := fun W g c ty => by
    simp [Builtin.copy_, run_underlying Tryd.underlying22, sizeOf, typeInfo, hi, Builtin.lenOf, Builtin.firstCells, goInt]
    have h := run_loadCells_list (P := Tryd.prog) W ⟨g0, 0, none⟩ [] (fun j v h => by simp at h)
    simp only [List.length_nil] at h
    rw [h]
    rfl
  have HB := hide (show Below w.heap.size w (w.alloc (.cells (madeCells #[.int .i64 0] (0 * 1)) 3)) from (Below.refl _ _).alloc (Nat.le_refl _) _)
  go_enter Tryd.func57, Tryd.ntmps57
  go_wp2_with fail
  refine (unhide H).mono ?_
  rintro _ _ ⟨rfl, rfl⟩
  go_wp2_with fail
  go_loopw [8] (fun x wr => x = .int .i64 0 ∧ Below w.heap.size w wr) (fun x _ => 0)
  case atStart => exact ⟨rfl, unhide HB⟩
  case round =>
    obtain ⟨rfl, hz⟩ := hrel
    have hd : decide ((0 : Int) < 0) = false := by simp
    go_wp2_with fail
    go_ret
    exact ⟨_, _, rfl, hz⟩
theorem repeat_many (v : Int) (n g0 c0 : Nat) (w : World) (hn : n ≤ 32) (hg : g0 < w.heap.size) (hv : w.cell? ⟨g0, 0, none⟩ = some (.int .i64 v)) :
    Calls Tryd.prog 57 #[.slice (some ⟨g0, 0, none⟩) 1 c0, .int .i64 n] w fun e w' => ∃ A c, e = .returned (.slice A n c) ∧ Reads w' w'.heap.size 1 A n ((List.replicate n v).map (.int .i64)) ∧ Below w.heap.size w w' := by
  rcases Nat.eq_zero_or_pos n with h | h
  · subst h
    exact (repeat_zero v g0 c0 w hg hv).mono fun e w' ⟨A, c, he, hb⟩ => ⟨A, c, he, ⟨rfl, fun h => absurd h (by omega)⟩, hb⟩
  · exact (repeat_any v n g0 c0 w h hn hg hv).mono fun e w' ⟨u, he, ho, hb⟩ => by
      obtain ⟨A, c, rfl, _⟩ := own_slice ho
      exact ⟨A, c, he, Reads.of_own ho, hb⟩
/-- a table of rows whose blocks all lie from B on -/
def TabMine (B : Nat) (w' : World) (t : TabR) : Prop := (t.rs = [] ∨ ∃ g, B ≤ g ∧ t.A = some ⟨g, 0, none⟩ ∧ Blk w' g 111 (t.rs.map EnR.val).toArray) ∧ ∀ r ∈ t.rs, w'.ownsRow B 131 5 r.val r.es.length (r.es.flatMap entCells)
theorem TabMine.below {B : Nat} {w w' : World} {t : TabR} (h : TabMine B w t) (hb : Below w.heap.size w w') : TabMine B w' t :=
  ⟨h.1.imp id fun ⟨g, h1, h2, h3⟩ => ⟨g, h1, h2, h3.below hb h3.lt⟩, fun r hr => own_below' (h.2 r hr) hb⟩
/-- what Heard answers -/
def HeaPost (r : List (List Ent) × Int) (w : World) (e : Ending) (w' : World) : Prop :=
  ∃ t : TabR, e = .returned (.tuple #[t.val, .int .i64 r.2]) ∧ t.es = r.1 ∧ TabRd w' w'.heap.size t ∧ Below w.heap.size w w' ∧ TabMine w.heap.size w' t
theorem heaPost_nil {r : List (List Ent) × Int} {x : Int} {w w' : World} (h : r = ([], x)) (hb : Below w.heap.size w w') : HeaPost r w (.returned (.tuple #[.slice none 0 0, .int .i64 x])) w' := by
  rw [h]
  exact ⟨⟨[], none, 0⟩, rfl, rfl, ⟨Reads.none_, fun r h => by simp at h⟩, hb, Or.inl rfl, fun r h => by simp at h⟩
set_option maxRecDepth 100000 in
set_option maxHeartbeats 4000000 in
theorem heard_early (c : Cfg) (a b : Int) (bA : Option Addr) (bn bc : Nat) (bs : List Int) (B : Nat) (w : World) (hc : c.ok w B) (hB : B ≤ w.heap.size) (hbad : ¬ (configP c = true ∧ (brOk c a = true ∧ brOk c b = true))) :
    Calls Tryd.prog 42 #[c.val, .int .i64 a, .int .i64 b, .slice bA bn bc] w (HeaPost (heardP c a b bs) w) := by
  have HMY := hide (fun W (hW : Below w.heap.size w W) => frameMay_any c B W (hc.below (hW.mono hB)) (Nat.le_trans hB hW.size))
  have HBR := hide (fun (W : World) (h : configP c = true) (g : Nat) (hg : Blk W g 3 #[.int .i64 a, .int .i64 b]) => frameBranch_any c (some ⟨g, 0, none⟩) 2 2 [a, b] W.heap.size W (by have := config_br h; omega) rfl (by unfold maxLen; omega) (by have := reads_of_blk (cs := [.int .i64 a, .int .i64 b]) hg hg.lt; simpa using this) (Nat.le_refl _))
  obtain ⟨w1, hw1⟩ : ∃ w1, w1 = w.alloc (.cells c.cells.toArray 25) := ⟨_, rfl⟩
  have hb1 : Below w.heap.size w w1 := by rw [hw1]; exact (Below.refl _ _).alloc (Nat.le_refl _) _
  obtain ⟨p, hp⟩ : ∃ p, p = w.heap.size := ⟨_, rfl⟩
  have kb : Blk w1 p 25 c.cells.toArray := by rw [hw1, hp]; exact Blk.new w _ _
  have HB1 := hide hb1
  have HW1 := hide hw1
  have HP := hide hp
  have HP1 := hide (show configP c = false → heardP c a b bs = ([], 4) from fun h => by unfold heardP; rw [if_pos h])
  have HP2 := hide (show configP c = true → (brOk c a = false ∨ brOk c b = false) → heardP c a b bs = ([], 2) from fun h h2 => by unfold heardP; rw [if_neg (by rw [h]; simp), if_pos h2])
  generalize heardP c a b bs = R at *
  have k0 := fun (W : World) (hz : Below w1.heap.size w1 W) => (kb.below hz kb.lt).cell 0
  have k1 := fun (W : World) (hz : Below w1.heap.size w1 W) => (kb.below hz kb.lt).cell 1
  have k2 := fun (W : World) (hz : Below w1.heap.size w1 W) => (kb.below hz kb.lt).cell 2
  have k3 := fun (W : World) (hz : Below w1.heap.size w1 W) => (kb.below hz kb.lt).cell 3
  have k4 := fun (W : World) (hz : Below w1.heap.size w1 W) => (kb.below hz kb.lt).cell 4
  have hz1 : Below w1.heap.size w1 w1 := Below.refl _ _
  clear hb1 kb hp hw1 hc
  obtain ⟨br, ⟨lA, ln, lc, ls⟩, tk, ⟨mA, mn, mc, ms⟩, cap⟩ := c
  unfold Cfg.cells at HW1 k0 k1 k2 k3 k4
  unfold Cfg.val at HMY HBR ⊢
  dsimp only at HMY HBR HW1 k0 k1 k2 k3 k4 ⊢
  simp only [List.getElem?_toArray, List.getElem?_cons_zero, List.getElem?_cons_succ] at k0 k1 k2 k3 k4
  have HBA := hide hbad
  clear hbad
  cases hcf : configP ⟨br, ⟨lA, ln, lc, ls⟩, tk, ⟨mA, mn, mc, ms⟩, cap⟩
  · rw [hcf] at HMY HP1
    clear hcf
    go_enter Tryd.func42, Tryd.ntmps42
    go_upto_region 1 with fail
    rw [← unhide HP, ← unhide HW1]
    go_wp2_with fail
    refine (unhide HMY w1 (unhide HB1)).mono ?_
    rintro _ w2 ⟨rfl, hb2⟩
    have HB2 := hide ((unhide HB1).trans (hb2.mono (unhide HB1).size))
    clear hb2
    go_wp2_with fail
    go_ret2
    exact heaPost_nil (unhide HP1 trivial) (unhide HB2)
  have hab : ¬ (brOk ⟨br, ⟨lA, ln, lc, ls⟩, tk, ⟨mA, mn, mc, ms⟩, cap⟩ a = true ∧ brOk ⟨br, ⟨lA, ln, lc, ls⟩, tk, ⟨mA, mn, mc, ms⟩, cap⟩ b = true) := fun h => unhide HBA ⟨hcf, h⟩
  have hab2 : (brOk ⟨br, ⟨lA, ln, lc, ls⟩, tk, ⟨mA, mn, mc, ms⟩, cap⟩ a && brOk ⟨br, ⟨lA, ln, lc, ls⟩, tk, ⟨mA, mn, mc, ms⟩, cap⟩ b) = false := by
    rw [← Bool.not_eq_true, Bool.and_eq_true]; exact hab
  have HPX := hide (unhide HP2 hcf (by rw [← Bool.and_eq_false_iff]; exact hab2))
  have HBR2 := hide (fun W g hg => by have h := unhide HBR W hcf g hg; simp only [List.all_cons, List.all_nil, Bool.and_true] at h; rw [hab2] at h; exact h)
  rw [hcf] at HMY
  clear hcf hab hab2 HBR HBA HP1 HP2
  go_enter Tryd.func42, Tryd.ntmps42
  go_upto_region 1 with fail
  rw [← unhide HP, ← unhide HW1]
  go_wp2_with fail
  refine (unhide HMY w1 (unhide HB1)).mono ?_
  rintro _ w2 ⟨rfl, hb2⟩
  have hz2 : Below w1.heap.size w1 w2 := hb2
  clear hb2
  go_wp2_with fail
  have hz3 : Below w1.heap.size w1 (w2.alloc (.cells #[.int .i64 a, .int .i64 b] 3)) := hz2.alloc hz2.size _
  refine (unhide HBR2 _ _ (Blk.new w2 _ _)).mono ?_
  rintro _ w3 ⟨rfl, hb3⟩
  have HB3 := hide ((unhide HB1).trans ((hz3.trans (hb3.mono hz3.size)).mono (unhide HB1).size))
  clear hb3 hz3
  go_wp2_with fail
  go_ret2
  exact heaPost_nil (unhide HPX) (unhide HB3)
theorem unp34 (bs : List Int) (q : Nat) (hq : q ≤ 4) : unpackP (List.replicate (8 * q) 34) bs = if bs.length = 34 * q then ((List.range (8 * q)).map (fun k => ((slN bs k : Nat) : Int)), 0) else ([], 4) := by
  have hs : sizeP (List.replicate (8 * q) 34) = (((34 * q : Nat) : Int), 0) := by
    unfold sizeP
    rw [List.length_replicate, if_neg (by omega), szGo_34]
    congr 1
    omega
  have ht : totalW (List.replicate (8 * q) (34 : Int)) = 272 * q := by
    unfold totalW
    rw [List.map_replicate, List.sum_replicate_nat]
    show 8 * q * 34 = _
    omega
  unfold unpackP
  rw [hs]
  dsimp only
  rw [if_neg (by simp)]
  by_cases h : bs.length = 34 * q
  · rw [if_neg (by omega), if_pos h, if_pos (by
      unfold tailOk
      rw [ht]
      simp
      intro k h1 h2
      omega)]
    congr 1
    apply List.ext_getElem?
    intro k
    by_cases hk : k < 8 * q
    · have htw : totalW ((List.replicate (8 * q) (34 : Int)).take k) = 34 * k := by
        unfold totalW
        rw [List.take_replicate, List.map_replicate, List.sum_replicate_nat, Nat.min_eq_left (by omega)]
        show k * 34 = 34 * k
        omega
      rw [valsB_get bs _ 0 k 34 (by rw [List.getElem?_replicate, if_pos hk]), htw, Nat.zero_add]
      simp [hk, slN]
    · rw [List.getElem?_eq_none (by rw [valsB_len, List.length_replicate]; omega), List.getElem?_eq_none (by simp; omega)]
  · rw [if_pos (by omega), if_neg h]
theorem frameSlot_wide (e : Ent) (w : World) (hv : 0 ≤ e.value ∧ e.value ≤ 255) (ht : 0 ≤ e.time ∧ e.time < 2097152) (hw : 0 ≤ e.who ∧ e.who ≤ 7) : Calls Tryd.prog 55 #[entV e] w fun x w' => x = .returned (.int .i64 (slotN e)) ∧ Below w.heap.size w w' := by
  obtain ⟨key, value, time, who, gone⟩ := e
  dsimp only at hv ht hw
  obtain ⟨value, rfl⟩ := Int.eq_ofNat_of_zero_le hv.1
  obtain ⟨time, rfl⟩ := Int.eq_ofNat_of_zero_le ht.1
  obtain ⟨who, rfl⟩ := Int.eq_ofNat_of_zero_le hw.1
  have key2 : ∀ a : Nat, a ≤ 3 → bits .or .i64 (wrap64 (bits .or .i64 (wrap64 (bits .or .i64 ((a * 2 ^ 8 : Nat) : Int) value * 2097152)) time * 8)) who = ((((a * 256 + value) * 2097152 + time) * 8 + who : Nat) : Int) := fun a ha => by
    rw [i64_join 8 a value (by omega) (by omega) (by omega)]
    rw [show wrap64 (((a * 2 ^ 8 + value : Nat) : Int) * 2097152) = (((a * 256 + value) * 2 ^ 21 : Nat) : Int) by unfold wrap64; omega]
    rw [i64_join 21 (a * 256 + value) time (by omega) (by omega) (by omega)]
    rw [show wrap64 ((((a * 256 + value) * 2 ^ 21 + time : Nat) : Int) * 8) = ((((a * 256 + value) * 2097152 + time) * 2 ^ 3 : Nat) : Int) by unfold wrap64; omega]
    rw [i64_join 3 _ who (by omega) (by omega) (by omega)]
  unfold entV
  dsimp only
  have HB := hide (show Below w.heap.size w (w.alloc (.cells #[.int .i64 key, .int .i64 value, .int .i64 time, .int .i64 who, .bool gone] 131)) from (Below.refl _ _).alloc (Nat.le_refl _) _)
  cases gone
  · have HS := hide (key2 2 (by omega))
    clear key2
    go_enter Tryd.func55, Tryd.ntmps55
    go_wp2_with fail
    go_ret
    exact ⟨ret_int (unhide HS), unhide HB⟩
  · have HS := hide (key2 3 (by omega))
    clear key2
    go_enter Tryd.func55, Tryd.ntmps55
    go_wp2_with fail
    go_ret
    exact ⟨ret_int (unhide HS), unhide HB⟩
theorem mayP_one (e : Ent) : mayP [e] = oneP e := by
  unfold mayP
  simp [entsGo, above]
theorem slotN_dec_ne (key n : Nat) (hn : n < 17179869184) (h : isN n = false) (h1 : 1 ≤ n / 4294967296) : slotN (decE key n) ≠ n := by
  unfold isN at h
  simp only [decide_eq_false_iff_not] at h
  unfold slotN goneN decE
  dsimp only
  simp only [Int.toNat_natCast, decide_eq_true_eq]
  split <;> omega
theorem slotN_dec_lt (key n : Nat) : slotN (decE key n) < 17179869184 := by
  unfold slotN goneN decE
  dsimp only
  simp only [Int.toNat_natCast, decide_eq_true_eq]
  split <;> omega
theorem OTb.new {w : World} {base g n : Nat} (h : Blk w g 111 (nilRow n)) (hb : base ≤ g) : OTb w base g (List.replicate n EnR.nil) := by
  refine ⟨?_, fun r hr => ?_, fun i j ri rj hi hj _ => ?_, hb⟩
  · rw [List.map_replicate]; exact h
  · obtain rfl := List.eq_of_mem_replicate hr
    exact World.ownsRow_nil _ _ _ _
  · obtain rfl := List.eq_of_mem_replicate (List.mem_of_getElem? hi)
    exact .inl rfl
end
end Go.Proofs.YtbolcebmbpepdaaDoor
