/- Contract of a rack's order (the reference), a tick; whole. Conditions: none beyond what each theorem states. (Written by wip/gen/rackorder.py.) -/
import Derived.Test.YtiljallignlbgaaHoldN
namespace Go.Proofs.Ytiljallignlbgaa
open Go.RowKit
set_option linter.unusedVariables false

theorem oversR_append (a b : List (Int × Int)) : oversR (a ++ b) = oversR a + oversR b := by
  induction a with
  | nil => simp [oversR]
  | cons x l ih => obtain ⟨c, t⟩ := x; rw [List.cons_append, oversR, oversR, ih]; omega
theorem oversR_take (l : List (Int × Int)) (k : Nat) (x : Int × Int) (h : l[k]? = some x) : oversR (l.take (k + 1)) = oversR (l.take k) + (if x.2 = 1 then x.1 else 0) := by
  rw [take_snoc l k x h, oversR_append]; obtain ⟨c, t⟩ := x; simp [oversR]
theorem oversR_le {l : List (Int × Int)} (h : ∀ x ∈ l, 0 ≤ x.1 ∧ x.1 ≤ 1048576 ∧ 0 ≤ x.2 ∧ x.2 ≤ 20) : 0 ≤ oversR l ∧ oversR l ≤ heldR l := by
  induction l with
  | nil => simp [oversR, heldR]
  | cons x l ih =>
    obtain ⟨c, t⟩ := x
    have h1 := h (c, t) (by simp)
    have h2 := ih (fun y hy => h y (by simp [hy]))
    dsimp only at h1
    rw [oversR, heldR]
    split <;> split <;> omega
theorem oversR_take_le {l : List (Int × Int)} (h : ∀ x ∈ l, 0 ≤ x.1 ∧ x.1 ≤ 1048576 ∧ 0 ≤ x.2 ∧ x.2 ≤ 20) (k : Nat) : 0 ≤ oversR (l.take k) ∧ oversR (l.take k) ≤ heldR l := by
  have h1 := oversR_le (l := l.take k) fun x hx => h x (List.mem_of_mem_take hx)
  have h2 := heldR_take_le h k
  omega
def agedRTo (l : List (Int × Int)) (k : Nat) : List (Int × Int) := (l.take k).map agedR ++ l.drop k
theorem agedRTo_zero (l : List (Int × Int)) : agedRTo l 0 = l := by simp [agedRTo]
theorem agedRTo_all (l : List (Int × Int)) : agedRTo l l.length = l.map agedR := by simp [agedRTo]
theorem agedRTo_len (l : List (Int × Int)) (k : Nat) : (agedRTo l k).length = l.length := by
  unfold agedRTo; rw [List.length_append, List.length_map, ← List.length_append, List.take_append_drop]
theorem agedRTo_get (l : List (Int × Int)) (k : Nat) (hk : k < l.length) : (agedRTo l k)[k]? = l[k]? := by
  unfold agedRTo
  rw [List.getElem?_append_right (by simp; omega), List.length_map, List.length_take, Nat.min_eq_left (by omega), Nat.sub_self, List.getElem?_drop]; rfl
theorem agedRTo_set (l : List (Int × Int)) (k : Nat) (x : Int × Int) (hx : l[k]? = some x) : (agedRTo l k).set k (agedR x) = agedRTo l (k + 1) := by
  have hk := (List.getElem?_eq_some_iff.1 hx).1
  unfold agedRTo
  rw [List.set_append_right _ _ (by simp; omega), List.length_map, List.length_take, Nat.min_eq_left (by omega), Nat.sub_self, drop_cons l k x hx, List.set_cons_zero, take_snoc l k x hx, List.map_append]
  simp
theorem agedRTo_same (l : List (Int × Int)) (k : Nat) (x : Int × Int) (hx : l[k]? = some x) (h : ¬ 0 < x.2) : agedRTo l (k + 1) = agedRTo l k := by
  rw [← agedRTo_set l k x hx]
  have : agedR x = x := by unfold agedR; rw [if_neg h]
  rw [this]
  apply List.ext_getElem?
  intro i
  rw [List.getElem?_set]
  by_cases hi : k = i
  · subst hi
    have hk := (List.getElem?_eq_some_iff.1 hx).1
    rw [if_pos rfl, if_pos (by rw [agedRTo_len]; exact hk), agedRTo_get _ _ hk, hx]
  · rw [if_neg hi]
def rackTo (r : Rk) (k : Nat) : Rk := ⟨r.free + oversR (r.rows.take k), r.used, agedRTo r.rows k⟩

set_option maxRecDepth 100000 in
set_option maxHeartbeats 3000000 in
theorem rack7 (base g o : Nat) (cs : Array Value) (r : Rk) (vc vl : Value) (w : World) (n life id : Int) (K : Nat) (h : RkAt w base g o cs r vc vl) (hs : r.ok K) (hK : K ≤ 1000000 - 1) (hB : base ≤ w.heap.size)  :
    Calls Try.prog 24 #[.pointer (some ⟨g, o, none⟩), (⟨7, n, life, id⟩ : Ordr).val] w (RkPost base g o cs vc vl w (r.order ⟨7, n, life, id⟩)) := by
  unfold Ordr.val
  dsimp only
  obtain ⟨wx, hwx⟩ : ∃ wx, wx = w.alloc (.cells #[.int .i64 7, .int .i64 n, .int .i64 life, .int .i64 id] 53) := ⟨_, rfl⟩
  have hbx : Below w.heap.size w wx := by rw [hwx]; exact (Below.refl _ _).alloc (Nat.le_refl _) _
  have k0 : Blk wx w.heap.size 53 #[.int .i64 7, .int .i64 n, .int .i64 life, .int .i64 id] := by rw [hwx]; exact Blk.new w 53 _
  have hx := h.calm hbx
  have q0 := k0.cell 0
  have q1 := k0.cell 1
  have q2 := k0.cell 2
  have q3 := k0.cell 3
  have c0 := hx.c0
  have c1 := hx.c1
  have q0a := q0
  have q1a := q1
  have q2a := q2
  have q3a := q3
  have c0a := c0
  have c1a := c1
  rw [hwx] at q0a q1a q2a q3a c0a c1a
  have hf0 := hs.free0
  have hu0 := hs.used0
  have hall := hs.all
  have hhb := heldR_bound hs.rows
  obtain ⟨hh0, _⟩ := hhb
  have hh1 : heldR r.rows ≤ 1048576 := by omega
  have hf1 : r.free ≤ 1048576 := by omega
  have hu1 : r.used ≤ 1048576 := by omega
  have hlen := hs.len
  have HX := hide hx
  have HBX := hide hbx
  have HWX := hide hwx
  have HS := hide hs
  have HK0 := hide k0
  have HLT := hide h.lt
  clear hx h hbx hs k0 hwx hall
  have HF := hide (show r.order ⟨7, n, life, id⟩ = (rackTo r r.rows.length, 0, 0) by
    unfold Rk.order rackTo
    rw [agedRTo_all, List.take_length]
    simp [asksCount])
  have hx2 := unhide HX
  obtain ⟨A2, cA2, hvc, hcA, _⟩ := hx2.cnt
  obtain ⟨A3, cA3, hvl, hcA3, _⟩ := hx2.lft
  subst hvc hvl
  obtain ⟨len, hlen2⟩ : ∃ len, len = r.rows.length := ⟨_, rfl⟩
  have HLEN := hide hlen2
  have c3 := hx2.c3
  have c3a := c3
  rw [← hlen2] at c3 c3a hlen hcA hcA3
  rw [unhide HWX] at c3a
  have hl9 : len ≤ 9223372036854775807 := by omega
  clear hx2 hlen2
  go_enter Try.func24, Try.ntmps24
  go_wp2_with fail
  rw [← unhide HWX]
  clear q0 q1 q2 q3 q0a q1a q2a q3a c0a c1a c0 c1 c3 c3a
  go_loopw [52] (fun i wr => ∃ (k : Nat) (cs' : Array Value), k ≤ len ∧ i = .int .i64 k ∧ Hid (cs' = putAt cs o ((rackTo r k).cells (.slice A2 r.rows.length cA2) (.slice A3 r.rows.length cA3))) ∧ Hid (RkAt wr base g o cs' (rackTo r k) (.slice A2 r.rows.length cA2) (.slice A3 r.rows.length cA3)) ∧ Hid (Only (RkD g (.slice A2 r.rows.length cA2) (.slice A3 r.rows.length cA3)) wx wr)) (fun i _ => len - (intOf i).toNat)
  case atStart =>
    have e : rackTo r 0 = r := by
      unfold rackTo
      rw [agedRTo_zero]
      simp [oversR]
    refine ⟨0, cs, Nat.zero_le _, rfl, ?_, ?_, Only.refl _ _⟩
    · show cs = _
      rw [e]
      exact (putAt_self cs o _ (unhide HX).has).symm
    · show RkAt _ _ _ _ _ _ _ _
      rw [e]
      exact unhide HX
  case round =>
    obtain ⟨k, cs', hk, rfl, HCS, HXR, HOR⟩ := hrel
    by_cases hlt : k < len
    · have hkl : k < r.rows.length := by rw [← unhide HLEN]; exact hlt
      obtain ⟨x, hx⟩ : ∃ x, r.rows[k]? = some x := ⟨_, List.getElem?_eq_getElem hkl⟩
      have hget : (rackTo r k).rows[k]? = some x := by show (agedRTo r.rows k)[k]? = some x; rw [agedRTo_get _ _ hkl]; exact hx
      have hlenR : (rackTo r k).rows.length = r.rows.length := agedRTo_len _ _
      have hxr := unhide HXR
      obtain ⟨B2, dB2, hv2, _, hcnt⟩ := hxr.cnt
      obtain ⟨B3, dB3, hv3, _, hlft⟩ := hxr.lft
      injection hv2 with hv2a hv2b hv2c
      injection hv3 with hv3a hv3b hv3c
      subst hv2a hv3a hv2c hv3c
      clear hv2b hv3b
      obtain ⟨qc, hA2, dc, fc⟩ := hcnt k x hget
      obtain ⟨ql, hA3, dl, fl⟩ := hlft k x hget
      subst hA2 hA3
      have c0 := hxr.c0
      have c2 := hxr.c2
      have c3 := hxr.c3
      rw [← unhide HLEN] at c2 c3
      have f0 := hxr.fr o
      have hxb := (unhide HS).rows x (List.mem_of_getElem? hx)
      obtain ⟨hx0, hx1, hx2, hx3⟩ := hxb
      have hov := oversR_take_le (unhide HS).rows k
      have hov1 := oversR_take_le (unhide HS).rows (k + 1)
      have hall := (unhide HS).all
      have HOT := hide (oversR_take r.rows k x hx)
      have hfr : (rackTo r k).free = r.free + oversR (r.rows.take k) := rfl
      have hfb : 0 ≤ (rackTo r k).free ∧ (rackTo r k).free ≤ 1048576 := by rw [hfr]; omega
      obtain ⟨hfb0, hfb1⟩ := hfb
      obtain ⟨fk, hfk⟩ : ∃ fk, fk = (rackTo r k).free := ⟨_, rfl⟩
      rw [← hfk] at c0 hfb0 hfb1
      have HFK := hide hfk
      have hki : (k : Int) < (len : Int) := by omega
      have hqg : ¬ ql = g := fun e => hxr.nl (by rw [e]; rfl)
      have hqg' : ¬ g = ql := fun e => hqg e.symm
      have hqq : ¬ qc = ql := fun e => hxr.ne qc rfl (by rw [e]; rfl)
      have HX1 := hide hx
      have HG1 := hide hget
      have HLR := hide hlenR
      have hD : ∀ y, y = g ∨ y = ql → RkD g (.slice (some ⟨qc, 0, none⟩) r.rows.length cA2) (.slice (some ⟨ql, 0, none⟩) r.rows.length cA3) y := fun y hy => by
        rcases hy with rfl | rfl
        · exact .inl rfl
        · exact .inr (.inr rfl)
      have HD := hide hD
      clear hxr hcnt hlft hx hget hlenR hov hov1 hall hfr hfk hD
      by_cases hz : x.2 = 0
      · have hb1 : (x.2 == 1) = false := by simp; omega
        have hb2 : ¬ 0 < x.2 := by omega
        have HN1 := hide (show rackTo r (k + 1) = rackTo r k by
          unfold rackTo
          rw [agedRTo_same r.rows k x (unhide HX1) hb2, unhide HOT, if_neg (by omega), Int.add_zero])
        rw [hz] at dl
        clear hz hb1 hb2 HOT
        go_wp2_with fail
        go_roundw
        case rel =>
          refine ⟨k + 1, cs', by omega, by go_num, ?_, ?_, HOR⟩
          · show _ = putAt _ _ _
            rw [unhide HN1]; exact unhide HCS
          · show RkAt _ _ _ _ _ _ _ _
            rw [unhide HN1]; exact unhide HXR
        case measure => simp [intOf]; omega
      by_cases h1 : x.2 = 1
      · have HN1 := hide (show rackTo r (k + 1) = ⟨fk + x.1, r.used, (agedRTo r.rows k).set k (x.1, 0)⟩ by
          unfold rackTo
          rw [← agedRTo_set r.rows k x (unhide HX1), unhide HOT, if_pos h1, unhide HFK]
          unfold rackTo agedR
          rw [h1]
          simp [Int.add_assoc])
        rw [h1] at dl
        clear h1 hz HOT
        go_wp2_with fail
        refine wp_region_draw_tail 14 (by kernel_rfl) (by kernel_rfl) ?_
        simp only [List.take_succ_cons, List.take_zero, List.drop_succ_cons, List.drop_zero]
        repeat (go_big_quiet_step (fail))
        refine wpQuiet_nil ?_
        rintro _ ⟨nq, rfl⟩
        go_wp2_with fail
        have hx5 := RkAt.free_ (RkAt.calm (unhide HXR) (below_drewN (Below.refl _ _) nq)) (fk + x.1)
        have hx6 := RkAt.left_ (r := ⟨fk + x.1, (rackTo r k).used, (rackTo r k).rows⟩) (k := k) (x := x) (q := ql) (c := cA3) (by have h := hx5; rw [← unhide HLR] at h; exact h) (unhide HG1) 0
        have HX6 := hide hx6
        have HO6 := hide (Only.setCell (p := ⟨ql, k, none⟩) (Only.setCell (p := ⟨g, o, none⟩) ((unhide HOR).drewN nq) (fun _ => unhide HD _ (.inl rfl)) (.int .i64 (fk + x.1))) (fun _ => unhide HD _ (.inr rfl)) (.int .i64 0))
        clear hx5 hx6
        go_roundw
        case rel =>
          refine ⟨k + 1, putAt cs o ((rackTo r (k + 1)).cells (.slice (some ⟨qc, 0, none⟩) r.rows.length cA2) (.slice (some ⟨ql, 0, none⟩) r.rows.length cA3)), by omega, by go_num, rfl, ?_, HO6⟩
          show RkAt _ _ _ _ _ _ _ _
          rw [unhide HN1]
          have h := unhide HX6
          rw [unhide HLR, unhide HCS, putAt_put _ _ _ _ (by simp [Rk.cells])] at h
          exact h
        case measure => simp [intOf]; omega
      · have hb1 : (x.2 == 1) = false := by simpa using h1
        have h2 : 0 < x.2 := by omega
        have HN1 := hide (show rackTo r (k + 1) = ⟨fk, r.used, (agedRTo r.rows k).set k (x.1, x.2 - 1)⟩ by
          unfold rackTo
          rw [← agedRTo_set r.rows k x (unhide HX1), unhide HOT, if_neg h1, unhide HFK]
          unfold rackTo agedR
          rw [if_pos h2]
          simp)
        clear h1 hz HOT
        go_wp2_with fail
        have hx6 := RkAt.left_ (k := k) (x := x) (q := ql) (c := cA3) (by have h := unhide HXR; rw [← unhide HLR] at h; exact h) (unhide HG1) (x.2 - 1)
        have HX6 := hide hx6
        have HO6 := hide (Only.setCell (p := ⟨ql, k, none⟩) (unhide HOR) (fun _ => unhide HD _ (.inr rfl)) (.int .i64 (x.2 - 1)))
        clear hx6
        go_roundw
        case rel =>
          refine ⟨k + 1, cs', by omega, by go_num, ?_, ?_, HO6⟩
          · show _ = putAt _ _ _
            rw [unhide HN1, unhide HCS]
            unfold Rk.cells
            rw [← unhide HFK]
            rfl
          · show RkAt _ _ _ _ _ _ _ _
            rw [unhide HN1]
            have h := unhide HX6
            rw [unhide HLR] at h
            have e : (rackTo r k).free = fk := (unhide HFK).symm
            rw [e] at h
            exact h
        case measure => simp [intOf]; omega
    · obtain rfl : k = len := by omega
      have HXF := hide (show RkAt wr base g o (putAt cs o ((rackTo r r.rows.length).cells (.slice A2 r.rows.length cA2) (.slice A3 r.rows.length cA3))) (rackTo r r.rows.length) (.slice A2 r.rows.length cA2) (.slice A3 r.rows.length cA3) by
        have h := unhide HXR
        rw [unhide HCS, unhide HLEN] at h
        exact h)
      clear HXR HCS
      go_wp2_with fail
      go_ret2
      rw [unhide HF]
      refine ⟨.slice A2 r.rows.length cA2, .slice A3 r.rows.length cA3, rfl, unhide HXF, ?_, fun k hk => .inl hk⟩
      have h1 : Only (RkD g (.slice A2 r.rows.length cA2) (.slice A3 r.rows.length cA3)) w wx := Only.of_below (unhide HBX) fun x hx hB => by omega
      exact h1.trans (unhide HOR) (fun x _ h => h)
end Go.Proofs.Ytiljallignlbgaa
