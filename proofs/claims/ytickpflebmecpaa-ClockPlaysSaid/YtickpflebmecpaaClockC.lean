/- Contracts of clock.joined, clock.Join and of the reference's ClockJoin; the walk of the law on them. Conditions: none beyond what each theorem states. -/
import Derived.Test.YtickpflebmecpaaClockB
import Derived.Test.YtickpflebmecpaaIntClone
namespace Go.Proofs.Ytickpflebmecpaa
open Go.RowKit
set_option linter.unusedVariables false

def maxL (a b : List Int) : List Int := List.zipWith (fun x y => if x < y then y else x) a b
theorem maxL_len {a b : List Int} {n : Nat} (h : a.length = n) (h' : b.length = n) : (maxL a b).length = n := by simp [maxL, h, h']
theorem maxL_get {a b : List Int} {k : Nat} {x y : Int} (hx : a[k]? = some x) (hy : b[k]? = some y) : (maxL a b)[k]? = some (if x < y then y else x) := by simp [maxL, List.getElem?_zipWith, hx, hy]
theorem mix_get {l a : List Int} {k : Nat} (hk : k ≤ l.length) : (l.take k ++ a.drop k)[k]? = a[k]? := by
  rw [List.getElem?_append_right (by rw [List.length_take]; omega), List.length_take, Nat.min_eq_left hk, Nat.sub_self, List.getElem?_drop, Nat.add_zero]
theorem mix_set {l a : List Int} {k : Nat} {z : Int} (hk : k < a.length) (hz : l[k]? = some z) : (l.take k ++ a.drop k).set k z = l.take (k + 1) ++ a.drop (k + 1) := by
  have hl : k < l.length := (List.getElem?_eq_some_iff.1 hz).1
  rw [List.set_append_right _ _ (by rw [List.length_take]; omega), List.length_take, Nat.min_eq_left (by omega), Nat.sub_self, take_snoc l k z hz, List.append_assoc]
  congr 1
  rw [List.drop_eq_getElem_cons hk]
  rfl

theorem clockJoined_any (A : Option Addr) (n c : Nat) (a : List Int) (A' : Option Addr) (c' : Nat) (b : List Int) (B : Nat) (w : World) (hl : a.length = n) (hn : 1 ≤ n) (hn8 : n ≤ 8) (hr : Reads w B 1 A n (a.map (.int .i64)))
    (hl' : b.length = n) (hr' : Reads w B 1 A' n (b.map (.int .i64))) (hB : B ≤ w.heap.size) :
    Calls Try.prog 21 #[.slice A n c, .slice A' n c'] w fun e w' => ∃ v, e = .returned v ∧ w'.ownsRow w.heap.size 3 1 v n ((maxL a b).map (.int .i64)) ∧ Below w.heap.size w w' := by
  have H1 := hide (intClone_any A n c a B w hl (by omega) hr hB)
  have HR' := hide (hr'.more hB)
  have HLA := hide hl
  have HLB := hide hl'
  have HLM := hide (maxL_len hl hl')
  clear hr hr' hl hl' hB
  go_enter Try.func21, Try.ntmps21
  go_wp2_with fail
  refine (unhide H1).mono ?_
  rintro _ w1 ⟨v, rfl, hown, hb1⟩
  obtain ⟨g, cap, T, rfl, hg, hgl, hnc, hcm, hT, hrow⟩ := own_irow hown (by omega)
  have HT := hide hT
  have HROW := hide hrow
  have HB1 := hide hb1
  clear hown hrow hT hb1 hgl
  go_wp2_with fail
  go_loopw [12] (fun i wr => ∃ (k : Nat), k ≤ n ∧ i = .int .i64 k ∧ Hid (IRow wr g ((maxL a b).take k ++ a.drop k) T) ∧ Below w.heap.size w wr) (fun i _ => n - (intOf i).toNat)
  case atStart => exact ⟨0, Nat.zero_le _, rfl, HROW, unhide HB1⟩
  case round =>
    obtain ⟨k, hk, rfl, HX, hb⟩ := hrel
    by_cases hlt : k < n
    · obtain ⟨b2, o2, y, rfl, hbl, hy, hc⟩ := at_num ((unhide HR').below hb) hlt
      obtain ⟨x, hx⟩ : ∃ x, a[k]? = some x := ⟨_, List.getElem?_eq_getElem (by rw [unhide HLA]; exact hlt)⟩
      have hz := maxL_get hx hy
      have c1 : wr.cell? ⟨g, 0 + k, none⟩ = some (.int .i64 x) := (unhide HX).cell0 (by rw [mix_get (by rw [unhide HLM]; exact hk)]; exact hx)
      have f1 : wr.frozen? ⟨g, 0 + k, none⟩ = false := IRow.frozen (unhide HX) _
      have HS := hide (show ∀ z, (if x < y then y else x) = z → IRow (wr.setCell ⟨g, k, none⟩ (.int .i64 z)) g ((maxL a b).take (k + 1) ++ a.drop (k + 1)) T by
        rintro z rfl
        have h := (unhide HX).set_ (k := k) (by rw [List.length_append, List.length_take, List.length_drop, unhide HLM, unhide HLA]; omega) (if x < y then y else x)
        rw [mix_set (by rw [unhide HLA]; exact hlt) hz] at h
        exact h)
      rw [Nat.zero_add] at c1 f1
      have HB := hide hb
      clear HX hx hy hz hb hbl
      by_cases hxy : x < y
      · have HS2 := hide (unhide HS y (by rw [if_pos hxy]))
        clear HS
        go_wp2_with fail
        go_roundw
        case rel => exact ⟨k + 1, by omega, by go_num, HS2, (unhide HB).setCell hg _⟩
        case measure => simp [intOf]; omega
      · have HS2 := hide (unhide HS x (by rw [if_neg hxy]))
        have hxy' : y ≤ x := by omega
        clear HS hxy
        go_wp2_with fail
        go_roundw
        case rel => exact ⟨k + 1, by omega, by go_num, HS2, (unhide HB).setCell hg _⟩
        case measure => simp [intOf]; omega
    · obtain rfl : k = n := by omega
      have HO := hide (show wr.ownsRow w.heap.size 3 1 (.slice (some ⟨g, 0, none⟩) k cap) k ((maxL a b).map (.int .i64)) by
        have h := unhide HX
        rw [List.take_of_length_le (by rw [unhide HLM]; exact Nat.le_refl _), List.drop_of_length_le (by rw [unhide HLA]; exact Nat.le_refl _), List.append_nil] at h
        exact h.own hg (unhide HLM) (unhide HT) hcm)
      have HB := hide hb
      clear HX hb
      go_wp2_with fail
      go_ret
      exact ⟨_, rfl, unhide HO, unhide HB⟩

def joinP (a b : List Int) : List Int × Int := if faultP a b = 0 then (maxL a b, 0) else ([], faultP a b)
def IntsPost (base : Nat) (r : List Int × Int) (e : Ending) (w w' : World) : Prop :=
  ∃ v : Value, e = .returned (.tuple #[v, .int .i64 r.2]) ∧ w'.ownsRow base 3 1 v r.1.length (r.1.map (.int .i64)) ∧ Below base w w'

theorem clockJoin_any (A : Option Addr) (n c : Nat) (a : List Int) (A' : Option Addr) (n' c' : Nat) (b : List Int) (B : Nat) (w : World) (hl : a.length = n) (hm : n ≤ maxLen) (hr : Reads w B 1 A n (a.map (.int .i64)))
    (hl' : b.length = n') (hm' : n' ≤ maxLen) (hr' : Reads w B 1 A' n' (b.map (.int .i64))) (hB : B ≤ w.heap.size) :
    Calls Try.prog 11 #[.slice A n c, .slice A' n' c'] w fun e w' => IntsPost w.heap.size (joinP a b) e w w' := by
  have H1 := hide (clockFault_any A n c a A' n' c' b B w hl hm hr hl' hm' hr')
  unfold maxLen at hm hm'
  rcases faultP_cases a b with hf | hf | hf
  · obtain ⟨ha, hb, he⟩ := faultP_zero hf
    obtain rfl : n = n' := by omega
    have h8 := (clockP_good ha)
    have H2 := hide (clockJoined_any A n c a A' c' b B w hl (by omega) (by omega) hr hl' hr' hB)
    have HF := hide (show joinP a b = (maxL a b, 0) by simp [joinP, hf])
    have HL := hide (maxL_len hl hl')
    rw [hf] at H1
    clear ha hb he hf hl hl' h8 hr hr'
    go_enter Try.func11, Try.ntmps11
    go_wp2_with fail
    refine (unhide H1).mono ?_
    rintro _ _ ⟨rfl, rfl⟩
    go_wp2_with fail
    refine (unhide H2).mono ?_
    rintro _ w1 ⟨v, rfl, hown, hb1⟩
    have HO := hide hown
    have HB1 := hide hb1
    clear hown hb1
    go_wp2_with fail
    go_ret2
    rw [unhide HF]
    exact ⟨_, rfl, by rw [unhide HL]; exact unhide HO, unhide HB1⟩
  all_goals
    have HF := hide (show joinP a b = ([], faultP a b) by simp [joinP, hf])
    rw [hf] at H1 HF
    clear hl hl' hf hr hr'
    go_enter Try.func11, Try.ntmps11
    go_wp2_with fail
    refine (unhide H1).mono ?_
    rintro _ _ ⟨rfl, rfl⟩
    go_wp2_with fail
    go_ret2
    rw [unhide HF]
    exact ⟨_, rfl, World.ownsRow_nil _ _ _ _, Below.refl _ _⟩

set_option maxHeartbeats 800000 in
theorem clockJoin_ref (A : Option Addr) (n c : Nat) (a : List Int) (A' : Option Addr) (n' c' : Nat) (b : List Int) (B : Nat) (w : World) (hl : a.length = n) (hm : n ≤ maxLen) (hr : Reads w B 1 A n (a.map (.int .i64)))
    (hl' : b.length = n') (hm' : n' ≤ maxLen) (hr' : Reads w B 1 A' n' (b.map (.int .i64))) (hB : B ≤ w.heap.size) :
    Calls Try.prog 12 #[.slice A n c, .slice A' n' c'] w fun e w' => IntsPost w.heap.size (joinP a b) e w w' := by
  have H1 := hide (clockMay_ref A n c a B w hl hm hr)
  have H2 := hide (clockMay_ref A' n' c' b B w hl' hm' hr')
  obtain ⟨i0, hi, hz0, hz1, hz2⟩ := int_info
  unfold maxLen at hm hm'
  cases ha : clockP a with
  | false =>
    rw [ha] at H1
    have HF := hide (show joinP a b = ([], 4) by simp [joinP, faultP, ha])
    clear ha hl hl' hr hr'
    go_enter Try.func12, Try.ntmps12
    go_wp2_with fail
    refine (unhide H1).mono ?_
    rintro _ _ ⟨rfl, rfl⟩
    go_wp2_with fail
    go_ret2
    rw [unhide HF]
    exact ⟨_, rfl, World.ownsRow_nil _ _ _ _, Below.refl _ _⟩
  | true =>
    rw [ha] at H1
    cases hb : clockP b with
    | false =>
      rw [hb] at H2
      have HF := hide (show joinP a b = ([], 4) by simp [joinP, faultP, hb])
      clear ha hl hl' hb hr hr'
      go_enter Try.func12, Try.ntmps12
      go_wp2_with fail
      refine (unhide H1).mono ?_
      rintro _ _ ⟨rfl, rfl⟩
      go_wp2_with fail
      refine (unhide H2).mono ?_
      rintro _ _ ⟨rfl, rfl⟩
      go_wp2_with fail
      go_ret2
      rw [unhide HF]
      exact ⟨_, rfl, World.ownsRow_nil _ _ _ _, Below.refl _ _⟩
    | true =>
      rw [hb] at H2
      by_cases he : n = n'
      · subst he
        have hle : n ≤ 8 := by have := (clockP_good ha).2.1; omega
        have HF := hide (show joinP a b = (maxL a b, 0) by simp [joinP, faultP, ha, hb, hl, hl'])
        have HLM := hide (maxL_len hl hl')
        have HR := hide (hr.more hB)
        have HR' := hide (hr'.more hB)
        clear ha hl hl' hb hr hr'
        go_enter Try.func12, Try.ntmps12
        go_wp2_with fail
        refine (unhide H1).mono ?_
        rintro _ _ ⟨rfl, rfl⟩
        go_wp2_with fail
        refine (unhide H2).mono ?_
        rintro _ _ ⟨rfl, rfl⟩
        go_wp2_with fail
        go_loopw [6, 23] (fun v i wr => ∃ (k : Nat), k ≤ n ∧ i = .int .i64 k ∧ wr.ownsRow w.heap.size 3 1 v k (((maxL a b).take k).map (.int .i64)) ∧ Below w.heap.size w wr) (fun _ i _ => n - (intOf i).toNat)
        case atStart => exact ⟨0, Nat.zero_le _, rfl, World.ownsRow_nil _ _ _ _, Below.refl _ _⟩
        case round =>
          obtain ⟨k, hk, rfl, hown, hb⟩ := hrel
          by_cases hlt : k < n
          · obtain ⟨b1, o1, x, rfl, hbl, hx, hc⟩ := at_num ((unhide HR).below hb) hlt
            obtain ⟨b2, o2, y, rfl, hbl', hy, hc'⟩ := at_num ((unhide HR').below hb) hlt
            have hkn : (k : Int) < (n : Int) := by omega
            have hsz := hb.size
            have HZ := hide (take_snoc (maxL a b) k _ (maxL_get hx hy))
            have HO := hide hown
            have HB := hide hb
            have hmb : (k + 1) * 8 ≤ 140737488355328 := by omega
            clear hx hy hown hb
            by_cases hxy : y < x
            · go_wp2_with fail
              go_quiet (fail)
              go_wp2_with (first
                | (at_builtin; (refine wpList_append_new _ rfl (.tmp 35) (.tmp 40) _ rfl w.heap.size 3 i0 _ 1 8 Try.underlying22 hi hz0 hz1 hz2 rfl (by omega) (by omega) _ _ _ (own_drewN (unhide HO) nq) rfl _ 1 _ rfl rfl rfl (by simp [Value.oneCell']) hmb (by omega) ?_); intro g cap w4 hg4 hown4 hbel4 _ _))
              go_roundw
              case rel =>
                refine ⟨k + 1, by omega, by go_num, ?_, hbel4 _ _ (Nat.le_refl _) (below_drewN (unhide HB) nq)⟩
                rw [unhide HZ, if_neg (by omega), List.map_append]
                exact hown4
              case measure => simp [intOf]; omega
            · have hxy' : x ≤ y := by omega
              go_wp2_with fail
              go_quiet (fail)
              go_wp2_with (first
                | (at_builtin; (refine wpList_append_new _ rfl (.tmp 42) (.tmp 47) _ rfl w.heap.size 3 i0 _ 1 8 Try.underlying22 hi hz0 hz1 hz2 rfl (by omega) (by omega) _ _ _ (own_drewN (unhide HO) nq) rfl _ 1 _ rfl rfl rfl (by simp [Value.oneCell']) hmb (by omega) ?_); intro g cap w4 hg4 hown4 hbel4 _ _))
              go_roundw
              case rel =>
                refine ⟨k + 1, by omega, by go_num, ?_, hbel4 _ _ (Nat.le_refl _) (below_drewN (unhide HB) nq)⟩
                rw [unhide HZ, List.map_append]
                have e : (if x < y then y else x) = y := by split <;> omega
                rw [e]
                exact hown4
              case measure => simp [intOf]; omega
          · obtain rfl : k = n := by omega
            have HO := hide (by
              have h := hown
              rw [List.take_of_length_le (by rw [unhide HLM]; exact Nat.le_refl _)] at h
              exact h)
            have HB := hide hb
            clear hown hb
            go_wp2_with fail
            go_ret2
            rw [unhide HF]
            exact ⟨_, rfl, by rw [unhide HLM]; exact unhide HO, unhide HB⟩
      · have HF := hide (show joinP a b = ([], 1) by simp [joinP, faultP, ha, hb, hl, hl', he])
        have h1 : (((n : Nat) : Int) != (n' : Nat)) = true := by simp; omega
        have h2 : (n != n') = true := by simp; omega
        clear ha hl hl' hb he hr hr'
        go_enter Try.func12, Try.ntmps12
        go_wp2_with fail
        refine (unhide H1).mono ?_
        rintro _ _ ⟨rfl, rfl⟩
        go_wp2_with fail
        refine (unhide H2).mono ?_
        rintro _ _ ⟨rfl, rfl⟩
        go_wp2_with fail
        go_ret2
        rw [unhide HF]
        exact ⟨_, rfl, World.ownsRow_nil _ _ _ _, Below.refl _ _⟩

theorem own_le {w : World} {base size n : Nat} {e : TypeId} {v : Value} {xs : List Value} (h : w.ownsRow base e size v n xs) : n ≤ 9223372036854775807 := by
  rcases h.2 with ⟨_, h0⟩ | ⟨g, cap, cur, e1, _, _, h2, h3, _⟩
  · omega
  · unfold maxLen at h3; omega

theorem walk_ClockJoins (A : Option Addr) (n c : Nat) (zs : List Int) (A' : Option Addr) (n' c' : Nat) (ys : List Int) (w : World)
    (l : n ≤ c) (m : c ≤ maxLen) (e : zs.length = n) (hr : Reads w w.heap.size 1 A n (zs.map (.int .i64))) (_hw : ∀ z ∈ zs, (Lit.int .i64 z).wf = true)
    (l' : n' ≤ c') (m' : c' ≤ maxLen) (e' : ys.length = n') (hr' : Reads w w.heap.size 1 A' n' (ys.map (.int .i64))) (_hw' : ∀ z ∈ ys, (Lit.int .i64 z).wf = true) :
    Calls Try.prog 5 #[.slice A n c, .slice A' n' c'] w fun e w' => e = .returned (.bool true) ∧ Below w.heap.size w w' := by
  have H1 := hide (clockJoin_any A n c zs A' n' c' ys _ w e (by omega) hr e' (by omega) hr' (Nat.le_refl _))
  have H2 := hide (fun W (hW : Below w.heap.size w W) => clockJoin_ref A n c zs A' n' c' ys _ W e (by omega) (hr.below hW) e' (by omega) (hr'.below hW) hW.size)
  clear e hr l m e' hr' l' m'
  go_enter Try.func5, Try.ntmps5
  go_wp2_with fail
  refine (unhide H1).mono ?_
  rintro e w1 ⟨v1, rfl, ho1, hb1⟩
  obtain ⟨A1, c1, rfl, hc1⟩ := own_slice ho1
  have HB1 := hide hb1
  have HO1 := hide ho1
  clear hb1 ho1
  go_wp2_with fail
  refine (unhide H2 _ (unhide HB1)).mono ?_
  rintro e w2 ⟨v2, rfl, ho2, hb2⟩
  obtain ⟨A2, c2, rfl, hc2⟩ := own_slice ho2
  have hr1 := ((Reads.of_own (unhide HO1)).below hb2).more hb2.size
  have hr2 := Reads.of_own ho2
  have HS := hide (sameInts_row A1 A2 _ c1 c2 (joinP zs ys).1 _ w2 rfl (own_le ho2) hr1 hr2)
  have HB2 := hide ((unhide HB1).trans (hb2.mono (unhide HB1).size))
  clear ho2 hb2 hr1 hr2
  go_wp2_with fail
  refine (unhide HS).mono ?_
  rintro e w3 ⟨rfl, nq, rfl⟩
  go_wp2_with fail
  go_ret
  exact ⟨by simp, below_drewN (unhide HB2) _⟩
end Go.Proofs.Ytickpflebmecpaa
