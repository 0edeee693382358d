/- Contract of HoldPlayed (the reference); the law HoldPlays. Conditions: none beyond what each theorem states. -/
import Derived.Test.YtiljallignlbgaaHoldQ
namespace Go.Proofs.Ytiljallignlbgaa
open Go.RowKit
set_option linter.unusedVariables false

theorem RkAt.grown {w w' : World} {base base' g o size n : Nat} {cs : Array Value} {r : Rk} {vc vl v' : Value} {e : TypeId} {xs : List Value} (h : RkAt w base g o cs r vc vl) (hown : w.ownsRow base' e size v' n xs) (h1 : e ≠ 57) (h2 : 3 ≠ e) (hg : w.grownBy w' v'.ownBlock) : RkAt w' base g o cs r vc vl :=
  ⟨h.blk.grown hg (Ne.symm (own_blk_ne hown h.blk h1)), h.has, World.ownsRow.kept h.oc hg (own_own_ne h.oc hown h2), World.ownsRow.kept h.ol hg (own_own_ne h.ol hown h2), h.ne⟩
theorem newR_ok : Rk.new.ok 0 := ⟨Int.le_refl _, Int.le_refl _, by simp [Rk.new, heldR], (fun _ h => by cases h), Nat.le_refl _⟩
def holdPR (l : List Ordr) : List Stk × Int := if 300 < l.length then ([], 1) else (playR' Rk.new l, 0)
theorem playR_drop (r : Rk) (l : List Ordr) (k : Nat) (x : Ordr) (h : l[k]? = some x) : playR' r (l.drop k) = (r.does x).2 :: playR' (r.does x).1 (l.drop (k + 1)) := by rw [drop_cons l k x h]; rfl
theorem holdP_same (l : List Ordr) : holdP l = holdPR l := by
  unfold holdP holdPR
  rw [play_same l _ _ 0 new_same new_ok]

set_option maxRecDepth 100000 in
set_option maxHeartbeats 2000000 in
theorem holdPlay_ref (A : Option Addr) (n c : Nat) (l : List Ordr) (B : Nat) (w : World) (hl : l.length = n) (hnc : n ≤ c) (hcm : c ≤ maxLen) (hr : Reads w B 4 A n (l.flatMap Ordr.cells)) (hB : B ≤ w.heap.size) :
    Calls Try.prog 7 #[.slice A n c] w fun e w' => StocksPost w.heap.size (holdPR l) e w w' := by
  obtain ⟨i0, hi, hz0, hz1, hz2⟩ := stock_info
  have HR := hide (hr.more hB)
  have HL := hide hl
  have hm : n ≤ 9223372036854775807 := by unfold maxLen at hcm; omega
  clear hr hl
  by_cases h3 : 300 < n
  · have HF := hide (show holdPR l = ([], 1) by unfold holdPR; rw [if_pos (by rw [unhide HL]; exact h3)])
    have h3' : (300 : Int) < (n : Int) := by omega
    go_enter Try.func7, Try.ntmps7
    go_wp2_with fail
    go_ret2
    rw [unhide HF]
    exact stocksPost_nil (Below.refl _ _)
  have HF := hide (show holdPR l = (playR' Rk.new l, 0) by unfold holdPR; rw [if_neg (by rw [unhide HL]; exact h3)])
  have h3' : (n : Int) ≤ 300 := by omega
  have hn3 : n ≤ 300 := by omega
  have hmb : ∀ k, k < n → (k + 1) * 40 ≤ 140737488355328 := fun k hk => by omega
  have HMB := hide hmb
  clear h3 hmb
  obtain ⟨w1, hw1⟩ : ∃ w1, w1 = w.alloc (.cells #[.int .i64 0, .int .i64 0, .slice none 0 0, .slice none 0 0] 57) := ⟨_, rfl⟩
  have hb1 : Below w.heap.size w w1 := by rw [hw1]; exact (Below.refl _ _).alloc (Nat.le_refl _) _
  have hsh : RkAt w1 w.heap.size w.heap.size 0 #[.int .i64 0, .int .i64 0, .slice none 0 0, .slice none 0 0] Rk.new (.slice none 0 0) (.slice none 0 0) :=
    ⟨by rw [hw1]; exact Blk.new w 57 _, fun j u hj => by rw [Nat.zero_add]; simpa [Rk.cells, Rk.new] using hj, World.ownsRow_nil _ _ _ _, World.ownsRow_nil _ _ _ _, fun k h => by cases h⟩
  have HW1 := hide hw1
  have HB1 := hide hb1
  have HSH := hide hsh
  clear hw1 hb1 hsh
  go_enter Try.func7, Try.ntmps7
  go_wp2_with fail
  rw [← unhide HW1]
  go_loopw [5, 15] (fun v i wr => ∃ (k : Nat) (outs : List Stk) (s : Rk) (cs : Array Value) (vc vl : Value), k ≤ n ∧ i = .int .i64 k ∧ Hid (outs.length = k ∧ wr.ownsRow w.heap.size 28 5 v k (outs.flatMap Stk.cells)) ∧ Hid (RkAt wr w.heap.size w.heap.size 0 cs s vc vl) ∧ Hid (s.ok k) ∧ Hid (playR' Rk.new l = outs ++ playR' s (l.drop k)) ∧ Below w.heap.size w wr) (fun _ i _ => n - (intOf i).toNat)
  case atStart => exact ⟨0, [], Rk.new, _, _, _, Nat.zero_le _, rfl, ⟨rfl, World.ownsRow_nil _ _ _ _⟩, HSH, newR_ok, rfl, unhide HB1⟩
  case round =>
    obtain ⟨k, outs, s, cs, vc, vl, hk, rfl, HOU, HSA, HOK, HSP, hb⟩ := hrel
    by_cases hlt : k < n
    · obtain ⟨b, p, x, rfl, _, hx, hcx⟩ := at_row Ordr.cells_len (by omega) ((unhide HR).below hb) hlt (unhide HL)
      have e0 := hcx 0 _ rfl
      have e1 := hcx 1 _ rfl
      have e2 := hcx 2 _ rfl
      have e3 := hcx 3 _ rfl
      simp only [Nat.add_zero] at e0
      have hkn : (k : Int) < (n : Int) := by omega
      have hbs := hb.size
      have HB := hide hb
      have HSP2 := hide (show playR' Rk.new l = (outs ++ [(s.does x).2]) ++ playR' (s.does x).1 (l.drop (k + 1)) by rw [unhide HSP, playR_drop s l k x hx]; simp)
      have HOK2 := hide (show (s.does x).1.ok (k + 1) from rkOrder_ok (unhide HOK) x)
      obtain ⟨w2, hw2⟩ : ∃ w2, w2 = wr.alloc (.cells x.cells.toArray 53) := ⟨_, rfl⟩
      have hb2 : Below wr.heap.size wr w2 := by rw [hw2]; exact (Below.refl _ _).alloc (Nat.le_refl _) _
      have k2 : Blk w2 wr.heap.size 53 x.cells.toArray := by rw [hw2]; exact Blk.new wr 53 _
      have hs2 := (unhide HSA).calm hb2
      have HDO := hide (rackOrder_any w.heap.size w.heap.size 0 cs s vc vl w2 x k hs2 (unhide HOK) (by omega) (Nat.le_trans hbs hb2.size))
      have HS2 := hide hs2
      have HOW2 := hide (own_below' (unhide HOU).2 hb2)
      have HLO := hide (unhide HOU).1
      have HB2 := hide (hb.trans (hb2.mono hbs))
      obtain ⟨r, hr⟩ : ∃ r, r = s.does x := ⟨_, rfl⟩
      rw [← hr] at HDO HSP2 HOK2
      obtain ⟨s3, ⟨rc, rid, rf, rh, ru⟩⟩ := r
      clear hr
      dsimp only at HSP2 HOK2
      obtain ⟨xk, xn, xl, xi⟩ := x
      have HW2 : Hid (w2 = wr.alloc (.cells #[.int .i64 xk, .int .i64 xn, .int .i64 xl, .int .i64 xi] 53)) := hw2
      unfold Ordr.val at HDO
      dsimp only at e0 e1 e2 e3 HDO
      have hmk := unhide HMB k hlt
      clear hx hcx hb hw2 hb2 k2 hs2 HOU HSA HOK HSP
      go_wp2_with fail
      rw [← unhide HW2]
      refine (unhide HDO).mono ?_
      rintro _ w3 ⟨vc3, vl3, rfl, hs3, ho3, ha3⟩
      obtain ⟨A0, c0, hv0, _⟩ := own_slice (unhide HOW2)
      have hown3 := own_only (unhide HOW2) ho3 (fun q hq hc => by
        rcases hc with rfl | hc | hc
        · exact own_blk_ne (unhide HOW2) (unhide HS2).blk (by decide) hq
        · rcases own_own_ne (unhide HOW2) (unhide HS2).oc (by decide) with h1 | h1
          · rw [h1] at hq; cases hq
          · exact h1 (by rw [hq, hc])
        · rcases own_own_ne (unhide HOW2) (unhide HS2).ol (by decide) with h1 | h1
          · rw [h1] at hq; cases hq
          · exact h1 (by rw [hq, hc]))
      have hb3 : Below w.heap.size w w3 := (unhide HB2).trans (ho3.to_below (fun x hx _ hc => by
        rcases hc with rfl | hc | hc
        · omega
        · have := ((unhide HS2).oc.lt x hc).1; omega
        · have := ((unhide HS2).ol.lt x hc).1; omega) (unhide HB2).size)
      have hs3w : w.heap.size ≤ w3.heap.size := hb3.size
      have HS3 := hide hs3
      have HOW3 := hide hown3
      have HB3 := hide hb3
      have HNE1 := hide (own_blk_ne hown3 hs3.blk (show 28 ≠ 57 by decide))
      subst hv0
      dsimp only [Stk.val]
      clear hs3 ho3 ha3 hown3 hb3 e0 e1 e2 e3
      go_wp2_with (first
        | (at_builtin; (refine wpList_append_new _ rfl (.tmp 19) (.tmp 23) _ rfl w.heap.size 28 i0 _ 5 40 Try.underlying23 hi hz0 hz1 hz2 rfl (by omega) (by omega) _ _ _ (unhide HOW3) rfl _ 1 _ rfl rfl rfl (by simp [Value.oneCell']) hmk hs3w ?_); intro g4 cap4 w4 hg4 hown4 hbel4 hgr4 hat4))
      have HO4 := hide (show (outs ++ [(⟨rc, rid, rf, rh, ru⟩ : Stk)]).length = k + 1 ∧ w4.ownsRow w.heap.size 28 5 (.slice (some ⟨g4, 0, none⟩) (k + 1) cap4) (k + 1) ((outs ++ [(⟨rc, rid, rf, rh, ru⟩ : Stk)]).flatMap Stk.cells) from ⟨by rw [List.length_append, unhide HLO]; rfl, by rw [List.flatMap_append]; simpa [Stk.cells] using hown4⟩)
      have HS4 := hide ((unhide HS3).grown (unhide HOW3) (by decide) (by decide) hgr4)
      have HB4 := hide (hbel4 _ _ (Nat.le_refl _) (unhide HB3))
      clear hown4 hbel4 hgr4 hat4 hg4
      go_roundw
      case rel => exact ⟨k + 1, outs ++ [(⟨rc, rid, rf, rh, ru⟩ : Stk)], s3, _, vc3, vl3, by omega, by go_num, HO4, HS4, HOK2, HSP2, unhide HB4⟩
      case measure => simp [intOf]; omega
    · obtain rfl : k = n := by omega
      have HF2 := hide (show holdPR l = (outs, 0) by
        rw [unhide HF, unhide HSP, List.drop_of_length_le (by rw [unhide HL]; exact Nat.le_refl _)]
        simp [playR'])
      obtain ⟨A0, c0, rfl, _⟩ := own_slice (unhide HOU).2
      have HB := hide hb
      clear hb HSA HOK HSP
      go_wp2_with fail
      go_ret2
      rw [unhide HF2]
      exact ⟨_, rfl, by rw [(unhide HOU).1]; exact (unhide HOU).2, unhide HB⟩
end Go.Proofs.Ytiljallignlbgaa
