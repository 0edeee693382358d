/- Contracts and plain facts, set together by program out of smaller texts. Conditions: none beyond what each theorem states. -/
import Derived.Test.YtbolcebmbpepdaaDoorM17
namespace Go.Proofs.YtbolcebmbpepdaaDoor
set_option linter.unusedVariables false
section
open Go.RowKit
def RumPost (r : List Int × Int) (w : World) (e : Ending) (w' : World) : Prop :=
  ∃ v, e = .returned (.tuple #[v, .int .i64 r.2]) ∧ w'.ownsRow w.heap.size 5 1 v r.1.length (r.1.map (.int .u8)) ∧ Below w.heap.size w w'
def TabR.es (t : TabR) : List (List Ent) := t.rs.map EnR.es
structure TabOk (w : World) (B : Nat) (t : TabR) : Prop where
  rd : TabRd w B t
  len : t.rs.length ≤ maxLen
  each : ∀ r ∈ t.rs, r.es.length ≤ maxLen
theorem TabOk.below {w w' : World} {B : Nat} {t : TabR} (h : TabOk w B t) (hb : Below B w w') : TabOk w' B t := ⟨h.rd.below hb, h.len, h.each⟩
theorem TabOk.more {w : World} {B B' : Nat} {t : TabR} (h : TabOk w B t) (hb : B ≤ B') : TabOk w B' t := ⟨h.rd.more hb, h.len, h.each⟩
theorem config_br {c : Cfg} (h : configP c = true) : 1 ≤ c.br ∧ c.br ≤ 8 ∧ c.la.zs.length ≤ 4 ∧ ∀ z ∈ c.la.zs, 0 ≤ z ∧ z ≤ 255 := by
  unfold configP at h
  simp only [Bool.and_eq_true, inB, decide_eq_true_eq, Bool.not_eq_true'] at h
  obtain ⟨⟨⟨⟨⟨⟨h1, h2⟩, h3⟩, h4⟩, h5⟩, h6⟩, h7⟩ := h
  refine ⟨h1.1, h1.2, h2, fun z hz => ?_⟩
  have := List.any_eq_false.1 h6 z hz
  unfold badLab at this
  simp only [Bool.or_eq_true, decide_eq_true_eq] at this
  have hp : (2:Nat) ^ c.br.toNat ≤ 2 ^ 8 := Nat.pow_le_pow_right (by omega) (by omega)
  have hp' : (2:Int) ^ c.br.toNat ≤ 256 := by
    have : ((2 ^ c.br.toNat : Nat) : Int) ≤ 256 := by omega
    simpa using this
  omega
set_option maxRecDepth 100000 in
set_option maxHeartbeats 4000000 in
theorem rumour_early (c : Cfg) (a b : Int) (t : TabR) (B : Nat) (w : World) (hc : c.ok w B) (ht : TabOk w B t) (hB : B ≤ w.heap.size) (hbad : ¬ (configP c = true ∧ (brOk c a = true ∧ brOk c b = true) ∧ t.es.length = c.la.zs.length ∧ t.es.any (fun l => !mayP l) = false)) :
    Calls Tryd.prog 34 #[c.val, .int .i64 a, .int .i64 b, t.val] w (RumPost (rumourP c a b t.es) w) := by
  have hfin : ∀ (x : Int) W, Below w.heap.size w W → rumourP c a b t.es = ([], x) → RumPost (rumourP c a b t.es) w (.returned (.tuple #[.slice none 0 0, .int .i64 x])) W := fun x W hW hp => by
    rw [hp]
    exact ⟨_, rfl, World.ownsRow_nil _ _ _ _, hW⟩
  have HFIN := hide hfin
  have HMY := hide (fun W (hW : Below w.heap.size w W) => frameMay_any c B W (hc.below (hW.mono hB)) (Nat.le_trans hB hW.size))
  have HBR := hide (fun (W : World) (h : configP c = true) (A : Option Addr) (cc : Nat) (hr : Reads W W.heap.size 1 A 2 ([a, b].map (.int .i64))) => frameBranch_any c A 2 cc [a, b] W.heap.size W (by have := config_br h; omega) rfl (by unfold maxLen; omega) hr (Nat.le_refl _))
  have HTC := hide (fun (W : World) (hW : Below w.heap.size w W) => entContains_any 52 (fun r => !mayP r.es) t.A t.rs.length t.c t.rs W rfl ht.len ((ht.rd.below (hW.mono hB)).1.more (Nat.le_trans hB hW.size)) rumClo_enters (fun r W2 hr hW2 => (rumClo_any r.A r.es.length r.c r.es W.heap.size W2 rfl (ht.each r hr) ((((ht.rd.below (hW.mono hB)).2 r hr).more (Nat.le_trans hB hW.size)).below hW2) hW2.size).mono fun _ _ ⟨he, hb⟩ => ⟨he, hW2.trans (hb.mono hW2.size)⟩))
  have hll := hc.1.1
  have hlm := hc.1.2.2.1
  have htl : t.es.length = t.rs.length := by unfold TabR.es; rw [List.length_map]
  have hte : t.es.any (fun l => !mayP l) = t.rs.any (fun r => !mayP r.es) := by unfold TabR.es; rw [List.any_map]; rfl
  rw [← hte] at HTC
  obtain ⟨rs, tA, tc⟩ := t
  unfold TabR.val
  dsimp only at HTC htl ⊢
  have hbnd := ht.len
  dsimp only at hbnd
  unfold maxLen at hbnd hlm
  obtain ⟨w1, hw1⟩ : ∃ w1, w1 = w.alloc (.cells c.cells.toArray 25) := ⟨_, rfl⟩
  have hb1 : Below w.heap.size w w1 := by rw [hw1]; exact (Below.refl _ _).alloc (Nat.le_refl _) _
  obtain ⟨p, hp⟩ : ∃ p, p = w.heap.size := ⟨_, rfl⟩
  have kb : Blk w1 p 25 c.cells.toArray := by rw [hw1, hp]; exact Blk.new w _ _
  have HB1 := hide hb1
  have HW1 := hide hw1
  have HP := hide hp
  have HRP := hide (show rumourP c a b (TabR.es ⟨rs, tA, tc⟩) = rumourP c a b (TabR.es ⟨rs, tA, tc⟩) from rfl)
  have hP1 : configP c = false → rumourP c a b (TabR.es ⟨rs, tA, tc⟩) = ([], 4) := fun h => by unfold rumourP; rw [if_pos h]
  have hP2 : configP c = true → (brOk c a = false ∨ brOk c b = false) → rumourP c a b (TabR.es ⟨rs, tA, tc⟩) = ([], 2) := fun h h2 => by unfold rumourP; rw [if_neg (by rw [h]; simp), if_pos h2]
  have hP3 : configP c = true → (brOk c a = true ∧ brOk c b = true) → (TabR.es ⟨rs, tA, tc⟩).length ≠ c.la.zs.length → rumourP c a b (TabR.es ⟨rs, tA, tc⟩) = ([], 1) := fun h h2 h3 => by unfold rumourP; rw [if_neg (by rw [h]; simp), if_neg (by rw [h2.1, h2.2]; simp), if_pos h3]
  have hP4 : configP c = true → (brOk c a = true ∧ brOk c b = true) → (TabR.es ⟨rs, tA, tc⟩).length = c.la.zs.length → (TabR.es ⟨rs, tA, tc⟩).any (fun l => !mayP l) = true → rumourP c a b (TabR.es ⟨rs, tA, tc⟩) = ([], 4) := fun h h2 h3 h4 => by unfold rumourP; rw [if_neg (by rw [h]; simp), if_neg (by rw [h2.1, h2.2]; simp), if_neg (by rw [h3]; simp), if_pos h4]
  generalize rumourP c a b (TabR.es ⟨rs, tA, tc⟩) = R at *
  have HP1 := hide hP1
  have HP2 := hide hP2
  have HP3 := hide hP3
  have HP4 := hide hP4
  have k0 := fun (W : World) (hz : Below w1.heap.size w1 W) => (kb.below hz kb.lt).cell 0
  have k1 := fun (W : World) (hz : Below w1.heap.size w1 W) => (kb.below hz kb.lt).cell 1
  have k2 := fun (W : World) (hz : Below w1.heap.size w1 W) => (kb.below hz kb.lt).cell 2
  have k3 := fun (W : World) (hz : Below w1.heap.size w1 W) => (kb.below hz kb.lt).cell 3
  have k4 := fun (W : World) (hz : Below w1.heap.size w1 W) => (kb.below hz kb.lt).cell 4
  have hz1 : Below w1.heap.size w1 w1 := Below.refl _ _
  clear hb1 kb hp hw1 hc ht hfin hP1 hP2 hP3 hP4 HRP hte
  obtain ⟨br, ⟨lA, ln, lc, ls⟩, tk, ⟨mA, mn, mc, ms⟩, cap⟩ := c
  unfold Cfg.cells at HW1 k0 k1 k2 k3 k4
  unfold Cfg.val at HMY HBR ⊢
  dsimp only at HMY HBR HW1 k0 k1 k2 k3 k4 hll hlm htl ⊢
  simp only [List.getElem?_toArray, List.getElem?_cons_zero, List.getElem?_cons_succ] at k0 k1 k2 k3 k4
  have hbad2 := hide hbad
  dsimp only at hbad2
  clear hbad
  cases hcf : configP ⟨br, ⟨lA, ln, lc, ls⟩, tk, ⟨mA, mn, mc, ms⟩, cap⟩
  · rw [hcf] at HMY HP1
    clear hcf
    go_enter Tryd.func34, Tryd.ntmps34
    go_upto_region 1 with fail
    rw [← unhide HP, ← unhide HW1]
    go_wp2_with fail
    refine (unhide HMY w1 (unhide HB1)).mono ?_
    rintro _ w2 ⟨rfl, hb2⟩
    have HB2 := hide ((unhide HB1).trans (hb2.mono (unhide HB1).size))
    clear hb2
    go_wp2_with fail
    go_ret2
    exact unhide HFIN _ _ (unhide HB2) (unhide HP1 trivial)
  rw [hcf] at HMY HBR HP2 HP3 HP4
  have HBA := hide (unhide hbad2)
  rw [hcf] at HBA
  clear hcf hbad2
  have HCB := hide (fun (W : World) (hW : Below w1.heap.size w1 W) (cc : Nat) (g : Nat) (hg : Blk W g 3 #[.int .i64 a, .int .i64 b]) => unhide HBR W rfl (some ⟨g, 0, none⟩) cc (by have := reads_of_blk (cs := [.int .i64 a, .int .i64 b]) hg hg.lt; simpa using this))
  clear HBR
  cases hab : brOk ⟨br, ⟨lA, ln, lc, ls⟩, tk, ⟨mA, mn, mc, ms⟩, cap⟩ a && brOk ⟨br, ⟨lA, ln, lc, ls⟩, tk, ⟨mA, mn, mc, ms⟩, cap⟩ b
  · have HPX := hide (unhide HP2 rfl (by rw [← Bool.and_eq_false_iff]; exact hab))
    have HCB' := hide (by have h := unhide HCB; simp only [List.all_cons, List.all_nil, Bool.and_true] at h; rw [hab] at h; exact h)
    clear hab HCB
    go_enter Tryd.func34, Tryd.ntmps34
    go_upto_region 1 with fail
    rw [← unhide HP, ← unhide HW1]
    go_wp2_with fail
    refine (unhide HMY w1 (unhide HB1)).mono ?_
    rintro _ w2 ⟨rfl, hb2⟩
    have hz2 : Below w1.heap.size w1 w2 := hb2
    have HB2 := hide ((unhide HB1).trans (hb2.mono (unhide HB1).size))
    clear hb2
    go_wp2_with fail
    have hz3 : Below w1.heap.size w1 (w2.alloc (.cells #[.int .i64 a, .int .i64 b] 3)) := hz2.alloc hz2.size _
    refine (unhide HCB' _ hz3 2 _ (Blk.new w2 _ _)).mono ?_
    rintro _ w3 ⟨rfl, hb3⟩
    have HB3 := hide ((unhide HB1).trans ((hz3.trans (hb3.mono hz3.size)).mono (unhide HB1).size))
    clear hb3 hz3
    go_wp2_with fail
    go_ret2
    exact unhide HFIN _ _ (unhide HB3) (unhide HPX)
  have hab2 : brOk ⟨br, ⟨lA, ln, lc, ls⟩, tk, ⟨mA, mn, mc, ms⟩, cap⟩ a = true ∧ brOk ⟨br, ⟨lA, ln, lc, ls⟩, tk, ⟨mA, mn, mc, ms⟩, cap⟩ b = true := by simpa using hab
  have HBC := hide (fun h => unhide HBA ⟨rfl, hab2, h⟩)
  have HCB' := hide (by have h := unhide HCB; simp only [List.all_cons, List.all_nil, Bool.and_true] at h; rw [hab] at h; exact h)
  have HP3' := hide (unhide HP3 rfl hab2)
  have HP4' := hide (unhide HP4 rfl hab2)
  have HTL := hide htl
  have HLL := hide hll
  clear hab hab2 HCB HBA HP3 HP4 HP1 HP2 htl hll
  by_cases hn : rs.length = ln
  · have HPY := hide (by
      cases hm : (TabR.es ⟨rs, tA, tc⟩).any (fun l => !mayP l) with
      | true => exact unhide HP4' (by rw [unhide HTL, unhide HLL, hn]) hm
      | false => exact absurd ⟨by rw [unhide HTL, unhide HLL, hn], hm⟩ (unhide HBC))
    have hm : (TabR.es ⟨rs, tA, tc⟩).any (fun l => !mayP l) = true := by
      cases hm : (TabR.es ⟨rs, tA, tc⟩).any (fun l => !mayP l) with
      | true => rfl
      | false => exact absurd ⟨by rw [unhide HTL, unhide HLL, hn], hm⟩ (unhide HBC)
    rw [hm] at HTC
    have e2 : (rs.length != ln) = false := by simpa using hn
    clear hm hn HP3' HP4' HBC HTL HLL
    generalize rs.length = q at *
    go_enter Tryd.func34, Tryd.ntmps34
    go_upto_region 1 with fail
    rw [← unhide HP, ← unhide HW1]
    go_wp2_with fail
    refine (unhide HMY w1 (unhide HB1)).mono ?_
    rintro _ w2 ⟨rfl, hb2⟩
    have hz2 : Below w1.heap.size w1 w2 := hb2
    have HB2 := hide ((unhide HB1).trans (hb2.mono (unhide HB1).size))
    clear hb2
    go_wp2_with fail
    have hz3 : Below w1.heap.size w1 (w2.alloc (.cells #[.int .i64 a, .int .i64 b] 3)) := hz2.alloc hz2.size _
    refine (unhide HCB' _ hz3 2 _ (Blk.new w2 _ _)).mono ?_
    rintro _ w3 ⟨rfl, hb3⟩
    have hz4 : Below w1.heap.size w1 w3 := hz3.trans (hb3.mono hz3.size)
    have HB3 := hide ((unhide HB1).trans (hz4.mono (unhide HB1).size))
    clear hb3 hz3
    go_wp2_with fail
    refine (unhide HTC _ (unhide HB3)).mono ?_
    rintro _ w4 ⟨rfl, hb4⟩
    have HB4 := hide ((unhide HB3).trans (hb4.mono (unhide HB3).size))
    clear hb4
    go_wp2_with fail
    go_ret2
    exact unhide HFIN _ _ (unhide HB4) (unhide HPY)
  · have HPX := hide (unhide HP3' (by rw [unhide HTL, unhide HLL]; exact hn))
    have e2 : (rs.length != ln) = true := by simpa using hn
    have e3 : (((rs.length : Nat) : Int) != (ln : Nat)) = true := by simp; omega
    clear HP3' HP4' HBC HTL HLL hn
    generalize rs.length = q at *
    go_enter Tryd.func34, Tryd.ntmps34
    go_upto_region 1 with fail
    rw [← unhide HP, ← unhide HW1]
    go_wp2_with fail
    refine (unhide HMY w1 (unhide HB1)).mono ?_
    rintro _ w2 ⟨rfl, hb2⟩
    have hz2 : Below w1.heap.size w1 w2 := hb2
    have HB2 := hide ((unhide HB1).trans (hb2.mono (unhide HB1).size))
    clear hb2
    go_wp2_with fail
    have hz3 : Below w1.heap.size w1 (w2.alloc (.cells #[.int .i64 a, .int .i64 b] 3)) := hz2.alloc hz2.size _
    refine (unhide HCB' _ hz3 2 _ (Blk.new w2 _ _)).mono ?_
    rintro _ w3 ⟨rfl, hb3⟩
    have hz4 : Below w1.heap.size w1 w3 := hz3.trans (hb3.mono hz3.size)
    have HB3 := hide ((unhide HB1).trans (hz4.mono (unhide HB1).size))
    clear hb3 hz3
    go_wp2_with fail
    go_ret2
    exact unhide HFIN _ _ (unhide HB3) (unhide HPX)
end
section
open Go.RowKit
theorem may_srt : ∀ (l : List Ent) (p : Option Int), entsGo l p = true → (∀ x ∈ l, oneP x = true) ∧ (∀ q, p = some q → ∀ x ∈ l, q < x.key) ∧ l.Pairwise fun x y => x.key < y.key
  | [], p, _ => ⟨by simp, by simp, List.Pairwise.nil⟩
  | e :: l, p, h => by
    unfold entsGo at h
    simp only [Bool.and_eq_true] at h
    obtain ⟨h1, h2, h3⟩ := may_srt l (some e.key) h.2
    refine ⟨fun x hx => ?_, fun q hq x hx => ?_, List.pairwise_cons.2 ⟨fun x hx => h2 _ rfl x hx, h3⟩⟩
    · rcases List.mem_cons.1 hx with rfl | hx
      · exact h.1.1
      · exact h1 x hx
    · subst hq
      have h4 := h.1.2
      simp [above] at h4
      rcases List.mem_cons.1 hx with rfl | hx
      · exact h4
      · have := h2 _ rfl x hx; omega
theorem may_row {l : List Ent} (h : mayP l = true) : (l.Pairwise fun x y => x.key < y.key) ∧ l.length ≤ 8 ∧ ∀ x ∈ l, (0 ≤ x.key ∧ x.key ≤ 1048576) ∧ (0 ≤ x.value ∧ x.value ≤ 1048576) ∧ (0 ≤ x.time ∧ x.time ≤ 1048576) ∧ (0 ≤ x.who ∧ x.who ≤ 7) := by
  unfold mayP at h
  simp only [Bool.and_eq_true, decide_eq_true_eq] at h
  obtain ⟨h1, _, h3⟩ := may_srt l none h.1
  refine ⟨h3, h.2, fun x hx => ?_⟩
  have := h1 x hx
  unfold oneP inP at this
  simp at this
  omega
theorem badRow_no {l : List Ent} (hm : mayP l = true) (hb : badRow l = false) : ∀ e ∈ l, SlotOk e ∧ e.key ≤ 7 := fun e he => by
  have h1 := (may_row hm).2.2 e he
  have h2 := List.any_eq_false.1 hb e he
  simp only [Bool.or_eq_true, decide_eq_true_eq] at h2
  exact ⟨⟨by omega, h1.2.2.1, h1.2.2.2⟩, by omega⟩
theorem keyE_snoc (l : List Ent) (e : Ent) (x : Int) (h : ∀ y ∈ l, y.key < e.key) : keyE (l ++ [e]) x = if x = e.key then some e else keyE l x := by
  unfold keyE
  rw [List.find?_append]
  by_cases hx : x = e.key
  · rw [if_pos hx]
    have : l.find? (fun y => decide (y.key = x)) = none := by
      rw [List.find?_eq_none]
      intro y hy
      have := h y hy
      simp
      omega
    rw [this]
    simp [hx]
  · rw [if_neg hx]
    have : [e].find? (fun y => decide (y.key = x)) = none := by
      simp
      omega
    rw [this]
    simp
def arrK (l : List Ent) : List Int := (List.range 8).map fun k : Nat => ((slotV l k : Nat) : Int)
theorem arrK_len (l : List Ent) : (arrK l).length = 8 := by simp [arrK]
theorem arrK_get (l : List Ent) (k : Nat) (hk : k < 8) : (arrK l)[k]? = some ((slotV l k : Nat) : Int) := by simp [arrK, hk]
theorem arrK_snoc (l : List Ent) (e : Ent) (k : Nat) (h : ∀ y ∈ l, y.key < e.key) (he : e.key = k) (hk : k < 8) : arrK (l ++ [e]) = (arrK l).set k ((slotN e : Nat) : Int) := by
  apply List.ext_getElem?
  intro i
  rw [List.getElem?_set, arrK_len]
  by_cases hi : i < 8
  · rw [arrK_get _ i hi]
    split
    · rename_i h1
      subst h1
      try rw [if_pos hk]
      unfold slotV
      rw [keyE_snoc l e _ h, if_pos he.symm]
    · rename_i h1
      rw [arrK_get l i hi]
      unfold slotV
      rw [keyE_snoc l e _ h, if_neg (by omega)]
  · rw [List.getElem?_eq_none (by rw [arrK_len]; omega)]
    split
    · omega
    · rw [List.getElem?_eq_none (by rw [arrK_len]; omega)]
theorem slotsOf_len (l : List Ent) : (slotsOf l).length = 8 := by simp [slotsOf]
theorem slotsOf_get (l : List Ent) (k : Nat) (hk : k < 8) : (slotsOf l)[k]? = some (34, ((slotV l k : Nat) : Int)) := by simp [slotsOf, hk]
theorem sorted_take {l : List Ent} (h : l.Pairwise fun x y => x.key < y.key) (k : Nat) (e : Ent) (he : l[k]? = some e) : ∀ y ∈ l.take k, y.key < e.key := fun y hy => by
  obtain ⟨hk, rfl⟩ := List.getElem?_eq_some_iff.1 he
  obtain ⟨i, hi, rfl⟩ := List.mem_iff_getElem.1 hy
  have hik : i < k := by rw [List.length_take] at hi; omega
  rw [List.getElem_take]
  exact List.pairwise_iff_getElem.1 h i k (by omega) hk hik
theorem rumFs_snoc (rows : List (List Ent)) (is : List Nat) (i : Nat) : rumFs rows (is ++ [i]) = rumFs rows is ++ slotsOf (rows.getD i []) := by
  unfold rumFs
  rw [List.flatMap_append]
  simp
theorem rumFs_len (rows : List (List Ent)) (is : List Nat) : (rumFs rows is).length = 8 * is.length := by
  have := congrArg List.length (rumFs_widths rows is)
  simpa using this
end
end Go.Proofs.YtbolcebmbpepdaaDoor
