/- Contracts and plain facts, set together by program out of smaller texts. Conditions: none beyond what each theorem states. -/
import Derived.Test.YtbolcebmbpepdaaGreatDoorM13
import Derived.Test.YtbolcebmbpepdaaGreatDoorM05
import Derived.Test.YtbolcebmbpepdaaGreatDoorM03
import Derived.Test.YtbolcebmbpepdaaGreatDoorM12
namespace Go.Proofs.YtbolcebmbpepdaaGreatDoor
set_option linter.unusedVariables false
section
open Go.RowKit
theorem zZe : ∀ (l : List Ent) (p : Option Int), zEd l p = true → (∀ x ∈ l, oneP x = true) ∧ (∀ q, p = some q → ∀ x ∈ l, q < x.key) ∧ l.Pairwise fun x y => x.key < y.key
 | [], p, _ => ⟨by simp, by simp, List.Pairwise.nil⟩
 | e :: l, p, h => by
  unfold zEd at h
  simp only [Bool.and_eq_true] at h
  obtain ⟨h1, h2, h3⟩ := zZe l (some e.key) h.2
  refine ⟨fun x hx => ?_, fun q hq x hx => ?_, List.pairwise_cons.2 ⟨fun x hx => h2 _ rfl x hx, h3⟩⟩
  ·rcases List.mem_cons.1 hx with rfl | hx
   ·exact h.1.1
   ·exact h1 x hx
  ·subst hq
   have h4 := h.1.2
   simp [above] at h4
   rcases List.mem_cons.1 hx with rfl | hx
   ·exact h4
   ·have := h2 _ rfl x hx; omega
theorem zZc {l : List Ent} (h : mayP l = true) : (l.Pairwise fun x y => x.key < y.key) ∧ l.length ≤ 8 ∧ ∀ x ∈ l, (0 ≤ x.key ∧ x.key ≤ 1048576) ∧ (0 ≤ x.value ∧ x.value ≤ 1048576) ∧ (0 ≤ x.time ∧ x.time ≤ 1048576) ∧ (0 ≤ x.who ∧ x.who ≤ 7) := by
 unfold mayP at h
 simp only [Bool.and_eq_true, decide_eq_true_eq] at h
 obtain ⟨h1, _, h3⟩ := zZe l none h.1
 refine ⟨h3, h.2, fun x hx => ?_⟩
 have := h1 x hx
 unfold oneP inP at this
 simp at this
 omega
theorem yCg {l : List Ent} (hm : mayP l = true) (hb : zDm l = false) : ∀ e ∈ l, zIq e ∧ e.key ≤ 7 := fun e he => by
 have h1 := (zZc hm).2.2 e he
 have h2 := List.any_eq_false.1 hb e he
 simp only [Bool.or_eq_true, decide_eq_true_eq] at h2
 exact ⟨⟨by omega, h1.2.2.1, h1.2.2.2⟩, by omega⟩
theorem zNf (l : List Ent) (e : Ent) (x : Int) (h : ∀ y ∈ l, y.key < e.key) : keyE (l ++ [e]) x = if x = e.key then some e else keyE l x := by
 unfold keyE
 rw [List.find?_append]
 by_cases hx : x = e.key
 ·rw [if_pos hx]
  have : l.find? (fun y => decide (y.key = x)) = none := by
   rw [List.find?_eq_none]
   intro y hy
   have := h y hy
   simp
   omega
  rw [this]
  simp [hx]
 ·rw [if_neg hx]
  have : [e].find? (fun y => decide (y.key = x)) = none := by
   simp
   omega
  rw [this]
  simp
def arrK (l : List Ent) : List Int := (List.range 8).map fun k : Nat => ((zDu l k : Nat) : Int)
theorem zOy (l : List Ent) : (arrK l).length = 8 := by simp [arrK]
theorem zPi (l : List Ent) (k : Nat) (hk : k < 8) : (arrK l)[k]? = some ((zDu l k : Nat) : Int) := by simp [arrK, hk]
theorem yCd (l : List Ent) (e : Ent) (k : Nat) (h : ∀ y ∈ l, y.key < e.key) (he : e.key = k) (hk : k < 8) : arrK (l ++ [e]) = (arrK l).set k ((zDw e : Nat) : Int) := by
 apply List.ext_getElem?
 intro i
 rw [List.getElem?_set, zOy]
 by_cases hi : i < 8
 ·rw [zPi _ i hi]
  split
  ·rename_i h1
   subst h1
   try rw [if_pos hk]
   unfold zDu
   rw [zNf l e _ h, if_pos he.symm]
  ·rename_i h1
   rw [zPi l i hi]
   unfold zDu
   rw [zNf l e _ h, if_neg (by omega)]
 ·rw [List.getElem?_eq_none (by rw [zOy]; omega)]
  split
  ·omega
  ·rw [List.getElem?_eq_none (by rw [zOy]; omega)]
theorem zIo (l : List Ent) : (slotsOf l).length = 8 := by simp [slotsOf]
theorem zOm (l : List Ent) (k : Nat) (hk : k < 8) : (slotsOf l)[k]? = some (34, ((zDu l k : Nat) : Int)) := by simp [slotsOf, hk]
theorem zXh {l : List Ent} (h : l.Pairwise fun x y => x.key < y.key) (k : Nat) (e : Ent) (he : l[k]? = some e) : ∀ y ∈ l.take k, y.key < e.key := fun y hy => by
 obtain ⟨hk, rfl⟩ := List.getElem?_eq_some_iff.1 he
 obtain ⟨i, hi, rfl⟩ := List.mem_iff_getElem.1 hy
 have hik : i < k := by rw [List.length_take] at hi; omega
 rw [List.getElem_take]
 exact List.pairwise_iff_getElem.1 h i k (by omega) hk hik
theorem yBe (rows : List (List Ent)) (is : List Nat) (i : Nat) : zCv rows (is ++ [i]) = zCv rows is ++ slotsOf (rows.getD i []) := by
 unfold zCv
 rw [List.flatMap_append]
 simp
theorem zSl (rows : List (List Ent)) (is : List Nat) : (zCv rows is).length = 8 * is.length := by
 have := congrArg List.length (zJo rows is)
 simpa using this
end
section
open Go.RowKit
theorem yDz : ∃ i, Tryz.prog.info? 179 = some i ∧ i.zero = some (.agg #[.int .i64 0, .int .i64 0]) ∧ i.size = 2 ∧ i.bytes = 16 := zEm (by kernel_rfl)
set_option maxRecDepth 100000 in
set_option maxHeartbeats 8000000 in
theorem zXm (c : Cfg) (a b : Nat) (t : TabR) (B : Nat) (w : World) (hc : c.ok w B) (ht : TabOk w B t) (hB : B ≤ w.heap.size) (hcf : zAh c = true) (hab : brOk c a = true ∧ brOk c b = true) (hlen : t.es.length = c.la.zs.length) (hmay : t.es.any (fun l => !mayP l) = false) :
    Calls Tryz.prog 81 #[c.val, .int .i64 a, .int .i64 b, t.val] w (zIb (zAv c a b t.es) w) := by
 obtain ⟨b1, b2, b3, b4⟩ := zKm hcf
 have ha8 : a ≤ 8 := by have := hab.1; unfold brOk at this; simp at this; omega
 have hb8 : b ≤ 8 := by have := hab.2; unfold brOk at this; simp at this; omega
 have HRP := hide (show zAv c a b t.es = if (zAn a b c.la.zs 0).any (fun i => zDm (t.es.getD i [])) = true then ([], 12) else (bytesOf (zAw (zCv t.es (zAn a b c.la.zs 0))) (34 * (zAn a b c.la.zs 0).length), 0) by
  unfold zAv
  rw [if_neg (by rw [hcf]; simp), if_neg (by rw [hab.1, hab.2]; simp), if_neg (by rw [hlen]; simp), if_neg (by rw [hmay]; simp), Int.toNat_natCast, Int.toNat_natCast])
 have hisl := zJg a b c.la.zs 0
 have hism := zGk a b c.la.zs 0
 have HMY := hide (fun W (hW : Below w.heap.size w W) => zEe c B W (hc.below (hW.mono hB)) (Nat.le_trans hB hW.size))
 rw [hcf] at HMY
 have HBR := hide (fun (W : World) (g : Nat) (hg : Blk W g 3 #[.int .i64 (a : Int), .int .i64 (b : Int)]) => zGa c (some ⟨g, 0, none⟩) 2 2 [(a : Int), (b : Int)] W.heap.size W (by omega) rfl (by unfold maxLen; omega) (by have := zCh (cs := [.int .i64 (a : Int), .int .i64 (b : Int)]) hg hg.lt; simpa using this) (Nat.le_refl _))
 rw [show [(a : Int), (b : Int)].all (brOk c) = true by simp [hab.1, hab.2]] at HBR
 have HTC := hide (fun (W : World) (hW : Below w.heap.size w W) => zKk 106 (fun r => !mayP r.es) t.A t.rs.length t.c t.rs W rfl ht.len ((ht.rd.below (hW.mono hB)).1.more (Nat.le_trans hB hW.size)) zMk (fun r W2 hr hW2 => (zQb r.A r.es.length r.c r.es W.heap.size W2 rfl (ht.each r hr) ((((ht.rd.below (hW.mono hB)).2 r hr).more (Nat.le_trans hB hW.size)).below hW2) hW2.size).mono fun _ _ ⟨he, hb⟩ => ⟨he, hW2.trans (hb.mono hW2.size)⟩))
 rw [show t.rs.any (fun r => !mayP r.es) = false by rw [← hmay]; unfold TabR.es; rw [List.any_map]; rfl] at HTC
 have HSH := hide (fun (W : World) (hW : Below w.heap.size w W) => zKd c a b B W (hc.below (hW.mono hB)) (Nat.le_trans hB hW.size) (by omega) (by omega) b3 b4)
 obtain ⟨is, his⟩ : ∃ is, is = zAn a b c.la.zs 0 := ⟨_, rfl⟩
 rw [← his] at HRP HSH hisl hism
 have hll := hc.1.1
 have hrl : t.rs.length = c.la.n := by rw [← hll, ← hlen]; unfold TabR.es; rw [List.length_map]
 have HRT := hide (ht.more hB)
 have HMAY := hide (fun r (hr : r ∈ t.rs) => show mayP r.es = true by
  have h1 : ∀ l ∈ t.es, ¬ (!mayP l) = true := by simpa using List.any_eq_false.1 hmay
  have := h1 r.es (List.mem_map.2 ⟨r, hr, rfl⟩)
  simpa using this)
 have HISL := hide hisl
 have hq4 : is.length ≤ 4 := by omega
 have HISM := hide (fun i (hi : i ∈ is) => show i < c.la.n by have := hism i hi; omega)
 obtain ⟨w1, hw1⟩ : ∃ w1, w1 = w.alloc (.cells c.cells.toArray 24) := ⟨_, rfl⟩
 have hb1 : Below w.heap.size w w1 := by rw [hw1]; exact (Below.refl _ _).alloc (Nat.le_refl _) _
 obtain ⟨p, hp⟩ : ∃ p, p = w.heap.size := ⟨_, rfl⟩
 have kb : Blk w1 p 24 c.cells.toArray := by rw [hw1, hp]; exact Blk.new w _ _
 have HB1 := hide hb1
 have HW1 := hide hw1
 have HP := hide hp
 have k0 := fun (W : World) (hz : Below w1.heap.size w1 W) => (kb.below hz kb.lt).cell 0
 have k1 := fun (W : World) (hz : Below w1.heap.size w1 W) => (kb.below hz kb.lt).cell 1
 have k2 := fun (W : World) (hz : Below w1.heap.size w1 W) => (kb.below hz kb.lt).cell 2
 have k3 := fun (W : World) (hz : Below w1.heap.size w1 W) => (kb.below hz kb.lt).cell 3
 have k4 := fun (W : World) (hz : Below w1.heap.size w1 W) => (kb.below hz kb.lt).cell 4
 have hz1 : Below w1.heap.size w1 w1 := Below.refl _ _
 obtain ⟨iF, hiF, hzF, hsF, hyF⟩ := yDz
 have hlm := hc.1.2.2.1
 unfold maxLen at hlm
 have hrl4 : t.rs.length ≤ 4 := by rw [hrl]; omega
 clear hb1 kb hp hw1 hc ht hcf hab hlen hmay b1 b2 b3 b4 his hisl hism
 obtain ⟨rs, tA, tc⟩ := t
 obtain ⟨br, ⟨lA, ln, lc, ls⟩, tk, ⟨mA, mn, mc, ms⟩, cap⟩ := c
 unfold Cfg.cells at HW1 k0 k1 k2 k3 k4
 unfold Cfg.val at HMY HBR HSH ⊢
 unfold TabR.val
 dsimp only at HMY HBR HSH HTC HMAY HISM HW1 k0 k1 k2 k3 k4 hll hrl hlm hrl4 ⊢
 simp only [List.getElem?_toArray, List.getElem?_cons_zero, List.getElem?_cons_succ] at k0 k1 k2 k3 k4
 rw [hrl] at HTC hrl4
 rw [hrl]
 have HRL := hide hrl
 clear hll hrl
 go_enter Tryz.func81, Tryz.ntmps81
 go_upto_region 1 with fail
 rw [← zAa HP, ← zAa HW1]
 go_wp2_with fail
 refine (zAa HMY w1 (zAa HB1)).mono ?_
 rintro _ w2 ⟨rfl, hb2⟩
 have hz2 : Below w1.heap.size w1 w2 := hb2
 clear hb2
 go_wp2_with fail
 have hz3 : Below w1.heap.size w1 (w2.alloc (.cells #[.int .i64 a, .int .i64 b] 3)) := hz2.alloc hz2.size _
 refine (zAa HBR _ _ (Blk.new w2 _ _)).mono ?_
 rintro _ w3 ⟨rfl, hb3⟩
 have hz4 : Below w1.heap.size w1 w3 := hz3.trans (hb3.mono hz3.size)
 have HB3 := hide ((zAa HB1).trans (hz4.mono (zAa HB1).size))
 clear hb3 hz3 hz2
 go_wp2_with fail
 refine (zAa HTC _ (zAa HB3)).mono ?_
 rintro _ w4 ⟨rfl, hb4⟩
 have hz5 : Below w1.heap.size w1 w4 := hz4.trans (hb4.mono hz4.size)
 have HB4 := hide ((zAa HB1).trans (hz5.mono (zAa HB1).size))
 clear hb4 hz4
 go_wp2_with fail
 refine (zAa HSH _ (zAa HB4)).mono ?_
 rintro _ w5 ⟨v5, rfl, ho5, hb5⟩
 obtain ⟨A5, c5, rfl, _⟩ := zAf ho5
 have HO5 := hide (zBr ho5 (zAa HB4).size)
 have hz6 : Below w.heap.size w w5 := (zAa HB4).trans (hb5.mono (zAa HB4).size)
 obtain ⟨q, hq⟩ : ∃ q, q = is.length := ⟨_, rfl⟩
 rw [← hq] at HO5 hq4
 have HQ := hide hq.symm
 rw [← hq]
 clear ho5 hb5 hz5 k0 k1 k2 k3 k4 hz1 hq
 go_wp2_with fail
 have HEND := hide (fun (W : World) (hW : Below w.heap.size w W) (h : is.any (fun i => zDm ((rs.map EnR.es).getD i [])) = true) => show zIb (zAv ⟨br, ⟨lA, ln, lc, ls⟩, tk, ⟨mA, mn, mc, ms⟩, cap⟩ a b (TabR.es ⟨rs, tA, tc⟩)) w (.returned (.tuple #[.slice none 0 0, .int .i64 12])) W by
  rw [zAa HRP, if_pos (show (is.any fun i => zDm ((TabR.es ⟨rs, tA, tc⟩).getD i [])) = true from h)]
  exact ⟨_, rfl, World.ownsRow_nil _ _ _ _, hW⟩)
 go_loopw [10, 44] (fun o j W => ∃ (k : Nat), k ≤ q ∧ j = .int .i64 k ∧ Hid (W.ownsRow w.heap.size 179 2 o (8 * k) ((zCv (rs.map EnR.es) (is.take k)).flatMap zIf)) ∧ Hid (W.ownsRow w.heap.size 3 1 (.slice A5 q c5) q (is.map fun i => Value.int .i64 ((i : Nat) : Int))) ∧ Hid ((is.drop k).any (fun i => zDm ((rs.map EnR.es).getD i [])) = is.any (fun i => zDm ((rs.map EnR.es).getD i []))) ∧ Below w.heap.size w W) (fun _ j _ => q - (intOf j).toNat)
 case atStart => exact ⟨0, Nat.zero_le _, rfl, World.ownsRow_nil _ _ _ _, HO5, rfl, hz6⟩
 case round =>
  obtain ⟨k, hk, rfl, HF, HI, HBD, hz⟩ := hrel
  by_cases hlt : k < q
  ·obtain ⟨bi, oi, i, rfl, _, hi, hci⟩ := zMq (fun i : Nat => Value.int .i64 ((i : Nat) : Int)) (Reads.of_own (zAa HI)) hlt
   have hiln := zAa HISM i (List.mem_of_getElem? hi)
   obtain ⟨bt, ot, r, hbt, _, hr, hcr⟩ := zMq EnR.val ((zAa HRT).below hz).rd.1 (by rw [zAa HRL]; exact hiln)
   dsimp only at hbt hr hcr
   subst hbt
   have hmr := zAa HMAY r (List.mem_of_getElem? hr)
   have hrr := ((zAa HRT).rd.2 r (List.mem_of_getElem? hr))
   have hgd : (rs.map EnR.es).getD i [] = r.es := by rw [List.getD_eq_getElem?_getD, List.getElem?_map, hr]; rfl
   have HTK := hide (zBp is k i hi)
   have HDR := hide (show (zDm r.es || (is.drop (k + 1)).any (fun i => zDm ((rs.map EnR.es).getD i []))) = is.any (fun i => zDm ((rs.map EnR.es).getD i [])) by
    have h := zAa HBD
    rw [zCb is k i hi, List.any_cons, hgd] at h
    exact h)
   obtain ⟨hrs, hr8, hre⟩ := zZc hmr
   have HSN := hide (yBe (rs.map EnR.es) (is.take k) i)
   rw [hgd] at HSN
   obtain ⟨es, rA, rc⟩ := r
   unfold EnR.val at hcr
   dsimp only at hcr hmr hrr hrs hr8 hre HDR HSN
   obtain ⟨n, hn⟩ : ∃ n, n = es.length := ⟨_, rfl⟩
   rw [← hn] at hcr hr8 hrr
   have HN := hide hn.symm
   have HRR := hide hrr
   have HSR := hide hrs
   have HRE := hide hre
   have HMR := hide hmr
   have hkq : (k : Int) < (q : Int) := by omega
   have hil : (i : Int) < (ln : Int) := by omega
   obtain ⟨g, hg⟩ : ∃ g, g = wr.heap.size := ⟨_, rfl⟩
   obtain ⟨w6, hw6⟩ : ∃ w6, w6 = wr.alloc (.cells #[.int .i64 0, .int .i64 0, .int .i64 0, .int .i64 0, .int .i64 0, .int .i64 0, .int .i64 0, .int .i64 0] 191) := ⟨_, rfl⟩
   have hb6 : Below wr.heap.size wr w6 := by rw [hw6]; exact (Below.refl _ _).alloc (Nat.le_refl _) _
   have kg : Blk w6 g 191 ((arrK []).map (Value.int .i64)).toArray := by rw [hw6, hg]; exact Blk.new _ _ _
   have hr6 : w6.cell? ⟨bt, ot + i, none⟩ = some (.slice rA n rc) := Ext.cell ⟨w6, hb6⟩ hcr
   have HG := hide hg
   have HW6 := hide hw6
   have HF6 := hide (zAi (zAa HF) hb6)
   have HI6 := hide (zAi (zAa HI) hb6)
   have hz6' : Below w.heap.size w w6 := hz.trans (hb6.mono hz.size)
   have HKG := hide kg
   have HGL := hide (show w.heap.size ≤ g by rw [hg]; exact hz.size)
   clear hi hr hgd hmr hrr hrs hre hn hg hw6 hb6 kg HBD
   go_upto_region 14 with fail
   rw [← zAa HW6, ← zAa HG]
   go_wp2_with fail
   go_loopw [53] (fun j W => ∃ (m : Nat), m ≤ n ∧ j = .int .i64 m ∧ Hid (Blk W g 191 ((arrK (es.take m)).map (Value.int .i64)).toArray) ∧ Hid (Only (fun x => x = g) w6 W) ∧ Hid ((es.take m).any (fun e => decide (8 ≤ e.key) || decide (255 < e.value)) = false) ∧ Below w.heap.size w W) (fun j _ => n - (intOf j).toNat)
   case atStart => exact ⟨0, Nat.zero_le _, rfl, HKG, hide (Only.refl _ _), hide rfl, hz6'⟩
   case round =>
    obtain ⟨m, hm, rfl, HK, HO, HNB, hzm⟩ := hrel
    by_cases hmn : m < n
    ·obtain ⟨be, oe, e, rfl, _, he, hce⟩ := zCf zBd (by omega) ((zAa HRR).below hzm) hmn (zAa HN)
     have z0 : wr.cell? ⟨be, oe + m * 5, none⟩ = some (.int .i64 e.key) := hce 0 _ rfl
     have z1 : wr.cell? ⟨be, oe + m * 5 + 1, none⟩ = some (.int .i64 e.value) := hce 1 _ rfl
     have z2 : wr.cell? ⟨be, oe + m * 5 + 2, none⟩ = some (.int .i64 e.time) := hce 2 _ rfl
     have z3 : wr.cell? ⟨be, oe + m * 5 + 3, none⟩ = some (.int .i64 e.who) := hce 3 _ rfl
     have z4 : wr.cell? ⟨be, oe + m * 5 + 4, none⟩ = some (.bool e.gone) := hce 4 _ rfl
     have hee := zAa HRE e (List.mem_of_getElem? he)
     have HTM := hide (zBp es m e he)
     have HST := hide (zXh (zAa HSR) m e he)
     have hbe : (decide (8 ≤ e.key) || decide (255 < e.value)) = true → zDm es = true := fun h => by
      unfold zDm
      rw [List.any_eq_true]
      exact ⟨e, List.mem_of_getElem? he, h⟩
     have HBE := hide hbe
     have hmn' : (m : Int) < (n : Int) := by omega
     have hza := hide (hzm.alloc hzm.size (.cells #[.int .i64 e.key, .int .i64 e.value, .int .i64 e.time, .int .i64 e.who, .bool e.gone] 125))
     clear hce he hbe
     obtain ⟨⟨e1, _⟩, ⟨e2, _⟩, ⟨e3, e4⟩, ⟨e5, e6⟩⟩ := hee
     obtain ⟨ek, ev, et, ew, eg⟩ := e
     dsimp only at z0 z1 z2 z3 z4 e1 e2 e3 e4 e5 e6 HTM HST HBE hza
     by_cases d1 : 8 ≤ ek
     ·have HR12 := hide (show zDm es = true from zAa HBE (by simp [d1]))
      go_wp2_with fail
      go_ret2
      exact zAa HEND _ (zAa hza) (by rw [← zAa HDR, zAa HR12]; rfl)
     by_cases d2 : 255 < ev
     ·have HR12 := hide (show zDm es = true from zAa HBE (by simp [d2]))
      go_wp2_with fail
      go_ret2
      exact zAa HEND _ (zAa hza) (by rw [← zAa HDR, zAa HR12]; rfl)
     obtain ⟨key, rfl⟩ := Int.eq_ofNat_of_zero_le e1
     have hk8 : key < 8 := by omega
     have hk8' : (key : Int) < 8 := by omega
     obtain ⟨w7, hw7⟩ : ∃ w7, w7 = wr.alloc (.cells #[.int .i64 key, .int .i64 ev, .int .i64 et, .int .i64 ew, .bool eg] 125) := ⟨_, rfl⟩
     have hb7 : Below wr.heap.size wr w7 := by rw [hw7]; exact (Below.refl _ _).alloc (Nat.le_refl _) _
     obtain ⟨pe, hpe⟩ : ∃ pe, pe = wr.heap.size := ⟨_, rfl⟩
     have ke : Blk w7 pe 125 #[.int .i64 key, .int .i64 ev, .int .i64 et, .int .i64 ew, .bool eg] := by rw [hw7, hpe]; exact Blk.new _ _ _
     have s0 := fun n : Ext w7 => n.cell (v := .int .i64 key) (ke.cell 0)
     have s1 := fun n : Ext w7 => n.cell (v := .int .i64 ev) (ke.cell 1)
     have s2 := fun n : Ext w7 => n.cell (v := .int .i64 et) (ke.cell 2)
     have s3 := fun n : Ext w7 => n.cell (v := .int .i64 ew) (ke.cell 3)
     have s4 := fun n : Ext w7 => n.cell (v := .bool eg) (ke.cell 4)
     have HSL := hide (fun W => zTe ⟨key, ev, et, ew, eg⟩ W ⟨by dsimp only; omega, by dsimp only; omega, by dsimp only; omega⟩)
     unfold entV at HSL
     dsimp only at HSL
     have HSET := hide (show arrK (es.take (m + 1)) = (arrK (es.take m)).set key ((zDw ⟨key, ev, et, ew, eg⟩ : Nat) : Int) by
      rw [zAa HTM]
      exact yCd (es.take m) ⟨key, ev, et, ew, eg⟩ key (zAa HST) rfl hk8)
     have HNB2 := hide (show (es.take (m + 1)).any (fun e => decide (8 ≤ e.key) || decide (255 < e.value)) = false by
      rw [zAa HTM, List.any_append, zAa HNB]
      simp
      omega)
     generalize zDw ⟨key, ev, et, ew, eg⟩ = sv at *
     have HW7 := hide hw7
     have HPE := hide hpe
     have HB7 := hide hb7
     clear hw7 hpe hb7 ke HST HBE hza HNB
     have d3 : decide (8 ≤ key) = false := by simp; omega
     have d4 : decide (255 < ev) = false := by simp; omega
     go_upto_region 19 with fail
     rw [← zAa HW7, ← zAa HPE]
     clear z0 z1 z2 z3 z4
     refine zCy 5 (by kernel_rfl) (by kernel_rfl) ?_
     simp only [List.take_succ_cons, List.take_zero, List.drop_succ_cons, List.drop_zero]
     repeat (go_big_quiet_step ((go_at_call 109; exact zDi (zAa HSL _))))
     refine wpQuiet_nil ?_
     rintro W ⟨nq, hW⟩
     have hWB : Below wr.heap.size wr W := (zAa HB7).trans ((hW ▸ nq.h : Below w7.heap.size w7 W).mono (zAa HB7).size)
     clear hW nq s0 s1 s2 s3 s4
     have kW := (zAa HK).below hWB (zAa HK).lt
     have hfg := kW.frozen key
     have hcg : W.cell? ⟨g, key, none⟩ = some (.int .i64 (zDu (es.take m) ((key : Nat) : Int) : Nat)) := by rw [kW.cell key]; simp [zPi _ key hk8]
     have HKW := hide kW
     have HWB := hide hWB
     clear kW hWB
     go_wp2_with fail
     go_roundw
     case rel => exact ⟨m + 1, by omega, by go_num, hide (by
      have h := (zAa HKW).set_ key (.int .i64 sv)
      rw [zAa HSET, List.map_set]
      simpa using h), hide (zAg ((zAa HO).calm (zAa HWB)) _ _), HNB2, (hzm.trans ((zAa HWB).mono hzm.size)).setCell (by exact zAa HGL) _⟩
     case measure => simp [intOf]; omega
    ·obtain rfl : m = n := by omega
     rw [List.take_of_length_le (by rw [zAa HN]; exact Nat.le_refl _)] at HK HNB
     have a0 : wr.cell? ⟨g, 0, none⟩ = some (.int .i64 (zDu es ((0 : Nat) : Int) : Nat)) := (zAa HK).cell 0
     have a1 : wr.cell? ⟨g, 1, none⟩ = some (.int .i64 (zDu es ((1 : Nat) : Int) : Nat)) := (zAa HK).cell 1
     have a2 : wr.cell? ⟨g, 2, none⟩ = some (.int .i64 (zDu es ((2 : Nat) : Int) : Nat)) := (zAa HK).cell 2
     have a3 : wr.cell? ⟨g, 3, none⟩ = some (.int .i64 (zDu es ((3 : Nat) : Int) : Nat)) := (zAa HK).cell 3
     have a4 : wr.cell? ⟨g, 4, none⟩ = some (.int .i64 (zDu es ((4 : Nat) : Int) : Nat)) := (zAa HK).cell 4
     have a5 : wr.cell? ⟨g, 5, none⟩ = some (.int .i64 (zDu es ((5 : Nat) : Int) : Nat)) := (zAa HK).cell 5
     have a6 : wr.cell? ⟨g, 6, none⟩ = some (.int .i64 (zDu es ((6 : Nat) : Int) : Nat)) := (zAa HK).cell 6
     have a7 : wr.cell? ⟨g, 7, none⟩ = some (.int .i64 (zDu es ((7 : Nat) : Int) : Nat)) := (zAa HK).cell 7
     have HSG := hide (fun (k : Nat) (hk : k < 8) => zOm es k hk)
     have HF8 := hide (zAk (zAa HF6) (zAa HO) (fun x hx e => zAe (zAa HF6) (zAa HKG) (by decide) (by rw [hx, e])))
     have HI8 := hide (zAk (zAa HI6) (zAa HO) (fun x hx e => zAe (zAa HI6) (zAa HKG) (by decide) (by rw [hx, e])))
     obtain ⟨sv, hsv⟩ : ∃ sv : Nat → Nat, sv = fun k => zDu es ((k : Nat) : Int) := ⟨_, rfl⟩
     have hsv' : ∀ k : Nat, zDu es ((k : Nat) : Int) = sv k := fun k => by rw [hsv]
     rw [hsv'] at a0 a1 a2 a3 a4 a5 a6 a7
     simp only [hsv'] at HSG
     clear hsv hsv'
     have HIX := hide (show ∀ x : Nat, x < 8 → ∀ W : World, (Instr.index 191 (.agg #[.int .i64 (sv 0 : Nat), .int .i64 (sv 1 : Nat), .int .i64 (sv 2 : Nat), .int .i64 (sv 3 : Nat), .int .i64 (sv 4 : Nat), .int .i64 (sv 5 : Nat), .int .i64 (sv 6 : Nat), .int .i64 (sv 7 : Nat)]) (.int .i64 (x : Int))).run Tryz.prog W = .ok (.int .i64 (sv x : Nat)) W from fun x hx W => by
      rcases (show x = 0 ∨ x = 1 ∨ x = 2 ∨ x = 3 ∨ x = 4 ∨ x = 5 ∨ x = 6 ∨ x = 7 by omega) with rfl | rfl | rfl | rfl | rfl | rfl | rfl | rfl <;> kernel_rfl)
     go_wp2_with fail
     go_loopw [10, 72] (fun o j W => ∃ (x : Nat), x ≤ 8 ∧ j = .int .i64 x ∧ Hid (W.ownsRow w.heap.size 179 2 o (8 * k + x) ((zCv (rs.map EnR.es) (is.take k) ++ (slotsOf es).take x).flatMap zIf)) ∧ Hid (W.ownsRow w.heap.size 3 1 (.slice (some ⟨bi, oi, none⟩) q c5) q (is.map fun i => Value.int .i64 ((i : Nat) : Int))) ∧ Below w.heap.size w W) (fun _ j _ => 8 - (intOf j).toNat)
     case atStart => exact ⟨0, Nat.zero_le _, rfl, hide (by rw [List.take_zero, List.append_nil]; exact zAa HF8), HI8, hzm⟩
     case round =>
      obtain ⟨x, hx, rfl, HFx, HIx, hzx⟩ := hrel
      by_cases hx8 : x < 8
      ·have HSX := hide (zBp (slotsOf es) x _ (zAa HSG x hx8))
       obtain ⟨AF, cF, rfl, _⟩ := zAf (zAa HFx)
       have hmq : (8 * k + x + 1) * 16 ≤ 140737488355328 := by omega
       have hsx := hzx.size
       have hix := zAa HIX x hx8
       have hx8' : (x : Int) < 8 := by omega
       go_wp2_with (first
        | (at_builtin; (refine zAl _ rfl (.tmp 75) (.tmp 78) _ rfl w.heap.size 179 iF _ 2 16 Tryz.underlying177 hiF hzF hsF hyF rfl (by omega) (by omega) _ _ _ (zAa HFx) rfl _ 1 _ rfl rfl rfl (by simp [Value.oneCell']) hmq hsx ?_); intro g7 cap7 w7 hg7 hown7 hbel7 hgr7 hat7; have HB7 := hide (hbel7 w.heap.size w (Nat.le_refl _) hzx); have HI7 := hide (zDe (zAa HIx) (zAa HFx) (by decide) hgr7); have HO7 := hide hown7; clear hg7 hown7 hbel7 hgr7 hat7))
       go_roundw
       case rel => exact ⟨x + 1, by omega, by go_num, hide (by
        have h := zAa HO7
        rw [zAa HSX, ← List.append_assoc, List.flatMap_append]
        exact h), HI7, zAa HB7⟩
       case measure => simp [intOf]; omega
      ·obtain rfl : x = 8 := by omega
       have HFE := hide (show wr.ownsRow w.heap.size 179 2 u10 (8 * (k + 1)) ((zCv (rs.map EnR.es) (is.take (k + 1))).flatMap zIf) by
        have h := zAa HFx
        rw [show (slotsOf es).take 8 = slotsOf es from List.take_of_length_le (by rw [zIo]; exact Nat.le_refl _)] at h
        rw [zAa HTK, zAa HSN]
        exact h)
       have HDR2 := hide (show (is.drop (k + 1)).any (fun i => zDm ((rs.map EnR.es).getD i [])) = is.any (fun i => zDm ((rs.map EnR.es).getD i [])) by
        have h := zAa HDR
        have h2 : zDm es = false := zAa HNB
        rw [h2, Bool.false_or] at h
        exact h)
       go_wp2_with fail
       go_roundw
       case rel => exact ⟨k + 1, by omega, by go_num, HFE, HIx, HDR2, hzx⟩
       case measure => simp [intOf]; omega
  ·obtain rfl : k = q := by omega
   have hF := zAa HF
   rw [List.take_of_length_le (by rw [zAa HQ]; exact Nat.le_refl _)] at hF
   have hnb : is.any (fun i => zDm ((rs.map EnR.es).getD i [])) = false := by
    have h := zAa HBD
    rw [List.drop_of_length_le (by rw [zAa HQ]; exact Nat.le_refl _)] at h
    exact h.symm
   obtain ⟨AF, cF, rfl, _⟩ := zAf hF
   have hlen : (zCv (rs.map EnR.es) is).length = 8 * k := by rw [zSl, zAa HQ]
   have hpk := rum_pack (rs.map EnR.es) is (by rw [zAa HQ]; exact hq4) (fun i hi e he => by
    have hb := List.any_eq_false.1 hnb i hi
    have hlt2 := zAa HISM i hi
    have hr : rs[i]? = some (rs[i]'(by rw [zAa HRL]; exact hlt2)) := List.getElem?_eq_getElem _
    generalize rs[i]'(by rw [zAa HRL]; exact hlt2) = r at hr
    have hgd : (rs.map EnR.es).getD i [] = r.es := by rw [List.getD_eq_getElem?_getD, List.getElem?_map, hr]; rfl
    rw [hgd] at hb he
    exact (yCg (zAa HMAY r (List.mem_of_getElem? hr)) (by simpa using hb) e he).1)
   have HPK := hide (zNe AF (8 * k) cF (zCv (rs.map EnR.es) is) wr hlen (by omega) (Reads.of_own hF))
   have HR := hide (show zAv ⟨br, ⟨lA, ln, lc, ls⟩, tk, ⟨mA, mn, mc, ms⟩, cap⟩ a b (TabR.es ⟨rs, tA, tc⟩) = zEh (zCv (rs.map EnR.es) is) by
    rw [zAa HRP, if_neg (show ¬ (is.any fun i => zDm ((TabR.es ⟨rs, tA, tc⟩).getD i [])) = true by rw [show (is.any fun i => zDm ((TabR.es ⟨rs, tA, tc⟩).getD i [])) = false from hnb]; simp), hpk]
    rfl)
   have HZ := hide hz
   clear hF hnb hlen hpk hz HF HBD
   go_wp2_with fail
   refine (zAa HPK).mono ?_
   rintro _ w7 ⟨v7, rfl, ho7, hb7⟩
   have HO7 := hide (zBr ho7 (zAa HZ).size)
   have HB7 := hide ((zAa HZ).trans (hb7.mono (zAa HZ).size))
   clear ho7 hb7
   go_wp2_with fail
   go_ret2
   unfold zIb
   rw [zAa HR]
   exact ⟨_, rfl, zAa HO7, zAa HB7⟩
theorem yAc (c : Cfg) (a b : Int) (t : TabR) (B : Nat) (w : World) (hc : c.ok w B) (ht : TabOk w B t) (hB : B ≤ w.heap.size) :
    Calls Tryz.prog 81 #[c.val, .int .i64 a, .int .i64 b, t.val] w (zIb (zAv c a b t.es) w) := by
 by_cases h : zAh c = true ∧ (brOk c a = true ∧ brOk c b = true) ∧ t.es.length = c.la.zs.length ∧ t.es.any (fun l => !mayP l) = false
 ·obtain ⟨h1, h2, h3, h4⟩ := h
  have ha : 0 ≤ a := by have := h2.1; unfold brOk at this; simp at this; omega
  have hb : 0 ≤ b := by have := h2.2; unfold brOk at this; simp at this; omega
  obtain ⟨a, rfl⟩ := Int.eq_ofNat_of_zero_le ha
  obtain ⟨b, rfl⟩ := Int.eq_ofNat_of_zero_le hb
  exact zXm c a b t B w hc ht hB h1 h2 h3 h4
 ·exact zVl c a b t B w hc ht hB h
end
section
open Go.RowKit
theorem yBq {w : World} {g : Nat} {t : TypeId} {cs : List Value} (h : Blk w g t cs.toArray) (size n : Nat) (hs : cs.length = n * size) : Reads w w.heap.size size (some ⟨g, 0, none⟩) n cs := by
 refine ⟨hs, fun _ => ⟨⟨g, 0, none⟩, rfl, h.lt, fun j u hj => ?_⟩⟩
 have e : (⟨g, 0, none⟩ : Addr).add j = ⟨g, j, none⟩ := by unfold Addr.add; split <;> simp_all
 rw [e, h.cell j]
 simpa using hj
end
section
open Go.RowKit
theorem zTi (f : Int × Int) (z : Nat) (hz : z < f.1.toNat) : (zCg f)[z]? = some (f.2.toNat / 2 ^ (f.1.toNat - 1 - z) % 2) := by simp [zCg, hz]
theorem zWz (bs : List Nat) (n i : Nat) (h : i < n) : (bytesOf bs n)[i]? = some ((byteOf bs i : Nat) : Int) := by simp [bytesOf, h]
end
section
open Go.RowKit
def slN (bs : List Int) (k : Nat) : Nat := fv (bitB bs) (34 * k) 34
theorem slN_lt (bs : List Int) (k : Nat) : slN bs k < 17179869184 := fv_lt _ (zKy bs) _ 34
def decE (key n : Nat) : Ent := ⟨key, ((n / 16777216 % 256 : Nat) : Int), ((n / 8 % 2097152 : Nat) : Int), ((n % 8 : Nat) : Int), decide (n / 4294967296 = 3)⟩
def isN (n : Nat) : Bool := decide (n / 8589934592 = 1)
theorem yDi (key n : Nat) (hn : n < 17179869184) (h : isN n = true) : zDw (decE key n) = n := by
 unfold isN at h
 simp only [decide_eq_true_eq] at h
 unfold zDw zLw decE
 dsimp only
 simp only [Int.toNat_natCast, decide_eq_true_eq]
 split <;> omega
def zLs (R : List (List Ent)) (i : Nat) (e : Ent) : List (List Ent) := R.set i (R.getD i [] ++ [e])
def zCl (bs : List Int) (is : List Nat) (ln : Nat) : Nat → List (List Ent)
 | 0 => List.replicate ln []
 | k + 1 => if isN (slN bs k) then zLs (zCl bs is ln k) (is.getD (k / 8) 0) (decE (k % 8) (slN bs k)) else zCl bs is ln k
theorem zHe (bs : List Int) (is : List Nat) (ln k : Nat) : (zCl bs is ln k).length = ln := by
 induction k with
 | zero => simp [zCl]
 | succ k ih =>
  rw [zCl]
  split
  ·unfold zLs; rw [List.length_set, ih]
  ·exact ih
def zGz (key n : Nat) : Bool := decide (n = 0) || (isN n && oneP (decE key n))
def zHz (bs : List Int) (m : Nat) : Bool := (List.range (8 * m)).all fun k => zGz (k % 8) (slN bs k)
def zBv (c : Cfg) (a b : Int) (bs : List Int) : List (List Ent) × Int :=
 if zAh c = false then ([], 4)
 else if brOk c a = false ∨ brOk c b = false then ([], 2)
 else if bs.length ≠ 34 * (zAn a.toNat b.toNat c.la.zs 0).length then ([], 4)
 else if zHz bs (zAn a.toNat b.toNat c.la.zs 0).length = true then (zCl bs (zAn a.toNat b.toNat c.la.zs 0) c.la.zs.length (8 * (zAn a.toNat b.toNat c.la.zs 0).length), 0)
 else ([], 4)
def zDk (bs : List Int) (p : Nat) : Nat → List Ent
 | 0 => []
 | q + 1 => zDk bs p q ++ (if isN (slN bs (8 * p + q)) then [decE q (slN bs (8 * p + q))] else [])
theorem zIk (bs : List Int) (p : Nat) : ∀ (q : Nat), ∀ e ∈ zDk bs p q, ∃ x : Nat, x < q ∧ e = decE x (slN bs (8 * p + x)) ∧ isN (slN bs (8 * p + x)) = true
 | 0 => fun e he => by simp [zDk] at he
 | q + 1 => fun e he => by
  unfold zDk at he
  rcases List.mem_append.1 he with h | h
  ·obtain ⟨x, h1, h2, h3⟩ := zIk bs p q e h
   exact ⟨x, by omega, h2, h3⟩
  ·split at h
   ·rename_i h1
    rw [List.mem_singleton] at h
    exact ⟨q, by omega, h, h1⟩
   ·cases h
theorem zOo (bs : List Int) (p : Nat) : ∀ (q : Nat), (zDk bs p q).Pairwise fun x y => x.key < y.key
 | 0 => List.Pairwise.nil
 | q + 1 => by
  unfold zDk
  rw [List.pairwise_append]
  refine ⟨zOo bs p q, by split <;> simp, fun x hx y hy => ?_⟩
  obtain ⟨z, h1, h2, _⟩ := zIk bs p q x hx
  split at hy
  ·rw [List.mem_singleton] at hy
   rw [h2, hy]
   simp only [decE]
   omega
  ·cases hy
theorem zKn (bs : List Int) (p : Nat) : ∀ (q : Nat), (zDk bs p q).length ≤ q
 | 0 => by simp [zDk]
 | q + 1 => by
  unfold zDk
  rw [List.length_append]
  have := zKn bs p q
  split <;> simp <;> omega
theorem zMr (bs : List Int) (p : Nat) : ∀ (q x : Nat), keyE (zDk bs p q) x = if x < q ∧ isN (slN bs (8 * p + x)) = true then some (decE x (slN bs (8 * p + x))) else none
 | 0, x => by simp [zDk, keyE]
 | q + 1, x => by
  unfold zDk
  have ih := zMr bs p q x
  split
  ·rename_i h
   rw [zNf _ _ _ (fun y hy => by
    obtain ⟨z, h1, h2, _⟩ := zIk bs p q y hy
    rw [h2]; simp only [decE]; omega), ih]
   by_cases hx : x = q
   ·subst hx
    rw [if_pos (by simp [decE]), if_pos ⟨by omega, h⟩]
   ·rw [if_neg (by simp only [decE]; omega)]
    by_cases hq : x < q
    ·simp [hq, show x < q + 1 by omega]
    ·simp [hq, show ¬ x < q + 1 by omega]
  ·rename_i h
   rw [List.append_nil, ih]
   by_cases hx : x = q
   ·subst hx
    simp [h]
   ·by_cases hq : x < q
    ·simp [hq, show x < q + 1 by omega]
    ·simp [hq, show ¬ x < q + 1 by omega]
theorem zKi (bs : List Int) (is : List Nat) (ln m : Nat) (hm : is.length = m) (hnd : is.Nodup) (hlt : ∀ i ∈ is, i < ln) : ∀ (k : Nat), k ≤ 8 * m →
    (∀ p i : Nat, is[p]? = some i → (zCl bs is ln k).getD i [] = zDk bs p (min 8 (k - 8 * p))) ∧ (∀ i : Nat, i ∉ is → (zCl bs is ln k).getD i [] = [])
 | 0, _ => by
  refine ⟨fun p i hp => ?_, fun i hi => ?_⟩
  ·rw [show min 8 (0 - 8 * p) = 0 by omega]
   simp [zCl, zDk, List.getElem?_replicate]
   split <;> rfl
  ·simp [zCl, List.getElem?_replicate]
   split <;> rfl
 | k + 1, hk => by
  obtain ⟨h1, h2⟩ := zKi bs is ln m hm hnd hlt k (by omega)
  have hp0 : is[k / 8]? = some (is[k / 8]'(by omega)) := List.getElem?_eq_getElem _
  generalize is[k / 8]'(by omega) = i0 at hp0
  have hi0 : is.getD (k / 8) 0 = i0 := by rw [List.getD_eq_getElem?_getD, hp0]; rfl
  have hl0 := hlt i0 (List.mem_of_getElem? hp0)
  have e8 : 8 * (k / 8) + k % 8 = k := by omega
  have hset : ∀ (e : Ent) (i : Nat), (zLs (zCl bs is ln k) i0 e).getD i [] = if i = i0 then (zCl bs is ln k).getD i0 [] ++ [e] else (zCl bs is ln k).getD i [] := fun e i => by
   unfold zLs
   rw [List.getD_eq_getElem?_getD, List.getElem?_set]
   by_cases hi : i0 = i
   ·subst hi
    rw [if_pos rfl, if_pos (by rw [zHe]; exact hl0), if_pos rfl]
    rfl
   ·rw [if_neg hi, if_neg (fun e => hi e.symm), List.getD_eq_getElem?_getD]
  have hmine : (zCl bs is ln k).getD i0 [] = zDk bs (k / 8) (k % 8) := by
   rw [h1 (k / 8) i0 hp0, show min 8 (k - 8 * (k / 8)) = k % 8 by omega]
  have hstep : zDk bs (k / 8) (k % 8 + 1) = zDk bs (k / 8) (k % 8) ++ (if isN (slN bs k) then [decE (k % 8) (slN bs k)] else []) := by
   conv => lhs; unfold zDk
   rw [e8]
  rw [zCl, hi0]
  refine ⟨fun p i hp => ?_, fun i hi => ?_⟩
  ·by_cases hpk : p = k / 8
   ·subst hpk
    obtain rfl : i = i0 := by rw [hp0] at hp; cases hp; rfl
    rw [show min 8 (k + 1 - 8 * (k / 8)) = k % 8 + 1 by omega, hstep]
    split
    ·rw [hset, if_pos rfl, hmine]
    ·rw [hmine, List.append_nil]
   ·have hne : i ≠ i0 := fun e => hpk ((List.getElem?_inj (List.getElem?_eq_some_iff.1 hp).1 hnd).1 (by rw [hp, hp0, e]))
    have e1 : min 8 (k + 1 - 8 * p) = min 8 (k - 8 * p) := by omega
    rw [e1, ← h1 p i hp]
    split
    ·rw [hset, if_neg hne]
    ·rfl
  ·have hne : i ≠ i0 := fun e => hi (e ▸ List.mem_of_getElem? hp0)
   split
   ·rw [hset, if_neg hne]; exact h2 i hi
   ·exact h2 i hi
theorem zSb : ∀ (l : List Ent) (p : Option Int), (∀ x ∈ l, oneP x = true) → (l.Pairwise fun x y => x.key < y.key) → (∀ q, p = some q → ∀ x ∈ l, q < x.key) → zEd l p = true
 | [], _, _, _, _ => rfl
 | e :: l, p, h1, h2, h3 => by
  have hs := List.pairwise_cons.1 h2
  unfold zEd
  rw [h1 e (by simp), zSb l (some e.key) (fun x hx => h1 x (by simp [hx])) hs.2 (fun q hq x hx => by cases hq; exact hs.1 x hx)]
  cases p with
  | none => rfl
  | some q => have := h3 q rfl e (by simp); simp [above]; exact this
theorem zHr (a b : Nat) : ∀ (ls : List Int) (i : Nat), (zAn a b ls i).Nodup
 | [], _ => List.nodup_nil
 | z :: ls, i => by
  have ih := zHr a b ls (i + 1)
  unfold zAn
  split
  ·refine List.nodup_cons.2 ⟨fun h => ?_, ih⟩
   have := zGk a b ls (i + 1) i h
   omega
  ·exact ih
theorem zXl (D : List Nat) (h1 : ∀ b ∈ D, b ≤ 1) (n k : Nat) (hk : k < 8 * n) : bitB (bytesOf D n) k = D.getD k 0 := by
 unfold bitB
 have e : (bytesOf D n).getD (k / 8) 0 = ((byteOf D (k / 8) : Nat) : Int) := by rw [List.getD_eq_getElem?_getD, zWz D n _ (by omega)]; rfl
 rw [e, Int.toNat_natCast]
 unfold byteOf
 rw [zZk]
 have hf : ∀ k, (fun j => D.getD j 0) k ≤ 1 := fun k => by
  show D.getD k 0 ≤ 1
  rw [List.getD_eq_getElem?_getD]
  cases hg : D[k]? with
  | none => simp
  | some b => exact h1 b (List.mem_of_getElem? hg)
 have := fv_bit _ hf (8 * (k / 8)) 8 (k % 8) (Nat.mod_lt _ (by omega))
 rw [show 8 - 1 - k % 8 = 7 - k % 8 by omega] at this
 rw [this]
 show D.getD (8 * (k / 8) + k % 8) 0 = D.getD k 0
 congr 1
 omega
theorem zRv (R : List (List Ent)) : ∀ (is : List Nat) (p i x : Nat), is[p]? = some i → x < 8 → (zCv R is)[8 * p + x]? = some (34, ((zDu (R.getD i []) x : Nat) : Int))
 | [], p, i, x, h, _ => by simp at h
 | j :: is, 0, i, x, h, hx => by
  simp at h
  subst h
  unfold zCv
  rw [List.flatMap_cons, List.getElem?_append_left (by rw [zIo]; omega), Nat.mul_zero, Nat.zero_add, zOm _ x hx]
 | j :: is, p + 1, i, x, h, hx => by
  have ih := zRv R is p i x (by simpa using h) hx
  unfold zCv at ih ⊢
  rw [List.flatMap_cons, List.getElem?_append_right (by rw [zIo]; omega), zIo, show 8 * (p + 1) + x - 8 = 8 * p + x by omega, ih]
theorem rumFs_34 (R : List (List Ent)) (is : List Nat) : ∀ f ∈ zCv R is, f.1 = 34 := fun f hf => by
 unfold zCv at hf
 obtain ⟨i, _, hf⟩ := List.mem_flatMap.1 hf
 unfold slotsOf at hf
 obtain ⟨k, _, rfl⟩ := List.mem_map.1 hf
 rfl
end
end Go.Proofs.YtbolcebmbpepdaaGreatDoor
