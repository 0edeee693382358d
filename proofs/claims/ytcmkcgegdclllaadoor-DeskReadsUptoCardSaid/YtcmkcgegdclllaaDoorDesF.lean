/- Contract of the reference's StepShown; the law DeskShows. Conditions: none beyond what each theorem states. -/
import Derived.Test.YtcmkcgegdclllaaDoorDesE
namespace Go.Proofs.YtcmkcgegdclllaaDoor
open Go.RowKit
set_option linter.unusedVariables false

theorem val_at {α : Type} (f : α → Value) {w : World} {B n : Nat} {A : Option Addr} {l : List α} (h : Reads w B 1 A n (l.map f)) {k : Nat} (hk : k < n) : ∃ b o x, A = some ⟨b, o, none⟩ ∧ b < B ∧ l[k]? = some x ∧ w.cell? ⟨b, o + k, none⟩ = some (f x) := by
  have hl : l.length = n := by have := h.1; rw [List.length_map] at this; omega
  rw [show l.map f = l.flatMap fun x => [f x] by rw [List.map_eq_flatMap]] at h
  obtain ⟨b, o, x, e, hb, hx, hc⟩ := at_row (cells := fun x => [f x]) (size := 1) (fun _ => rfl) Nat.one_pos h hk hl
  have := hc 0 _ rfl
  simp only [Nat.mul_one, Nat.add_zero] at this
  exact ⟨b, o, x, e, hb, hx, this⟩
theorem named_any (m : Nat) (hm : m < 11) (x1 x2 x3 x4 x5 x6 x7 : Int) (w : World) :
    Calls Tryd.prog 20 #[.agg #[.int .i64 ((m : Int) + 1), .int .i64 x1, .int .i64 x2, .int .i64 x3, .int .i64 x4, .int .i64 x5, .int .i64 x6, .int .i64 x7]] w (NamPost m [(m : Int) + 1, x1, x2, x3, x4, x5, x6, x7] w) := by
  have h : m = 0 ∨ m = 1 ∨ m = 2 ∨ m = 3 ∨ m = 4 ∨ m = 5 ∨ m = 6 ∨ m = 7 ∨ m = 8 ∨ m = 9 ∨ m = 10 := by omega
  rcases h with rfl | rfl | rfl | rfl | rfl | rfl | rfl | rfl | rfl | rfl | rfl
  · exact named1 x1 x2 x3 x4 x5 x6 x7 w
  · exact named2 x1 x2 x3 x4 x5 x6 x7 w
  · exact named3 x1 x2 x3 x4 x5 x6 x7 w
  · exact named4 x1 x2 x3 x4 x5 x6 x7 w
  · exact named5 x1 x2 x3 x4 x5 x6 x7 w
  · exact named6 x1 x2 x3 x4 x5 x6 x7 w
  · exact named7 x1 x2 x3 x4 x5 x6 x7 w
  · exact named8 x1 x2 x3 x4 x5 x6 x7 w
  · exact named9 x1 x2 x3 x4 x5 x6 x7 w
  · exact named10 x1 x2 x3 x4 x5 x6 x7 w
  · exact named11 x1 x2 x3 x4 x5 x6 x7 w
/-- what Show answers -/
def ShowPost (xs : List Int) (w : World) (e : Ending) (w' : World) : Prop :=
  e = .returned (.tuple #[.string (bstr (showP xs).1), .int .i64 (showP xs).2]) ∧ Below w.heap.size w w'
set_option maxRecDepth 100000 in
set_option maxHeartbeats 4000000 in
theorem shown_bad (x0 x1 x2 x3 x4 x5 x6 x7 : Int) (w : World) (h : x0 < 1 ∨ 11 < x0) :
    Calls Tryd.prog 10 #[.agg #[.int .i64 x0, .int .i64 x1, .int .i64 x2, .int .i64 x3, .int .i64 x4, .int .i64 x5, .int .i64 x6, .int .i64 x7]] w fun e w' => e = .returned (.tuple #[.string ⟨#[]⟩, .int .i64 3]) ∧ Below w.heap.size w w' := by
  obtain ⟨wx, hwx⟩ : ∃ wx, wx = w.alloc (.cells #[.int .i64 x0, .int .i64 x1, .int .i64 x2, .int .i64 x3, .int .i64 x4, .int .i64 x5, .int .i64 x6, .int .i64 x7] 29) := ⟨_, rfl⟩
  have hbx : Below w.heap.size w wx := by rw [hwx]; exact (Below.refl _ _).alloc (Nat.le_refl _) _
  have HN := hide (named_bad x0 x1 x2 x3 x4 x5 x6 x7 wx h)
  have HWX := hide hwx
  have HBX := hide hbx
  clear hwx hbx h
  go_enter Tryd.func10, Tryd.ntmps10
  go_wp2_with fail
  rw [← unhide HWX]
  refine (unhide HN).mono ?_
  rintro _ w2 ⟨rfl, hb2⟩
  have HB2 := hide ((unhide HBX).trans (hb2.mono (unhide HBX).size))
  clear hb2
  go_wp2_with fail
  go_ret2
  exact ⟨rfl, unhide HB2⟩
theorem word_ne : ∀ m : Fin 11, (bstr (wordL m.val)).toList.isEmpty = false := by decide +kernel
/-- the words told so far -/
def accS (m k : Nat) (xs : List Int) : List UInt8 := wordL m ++ Lib.joinTail [32] (((selL m).take k).map fun j => Lib.itoa (fld xs j))
theorem accS_snoc (m k j : Nat) (xs : List Int) (h : (selL m)[k]? = some j) : accS m (k + 1) xs = accS m k xs ++ (32 :: Lib.itoa (fld xs j)) := by
  unfold accS Lib.joinTail
  rw [List.take_add_one, h]
  simp [List.map_append, List.append_assoc]
theorem accS_len (m k : Nat) (xs : List Int) (hw : (wordL m).length ≤ 7) (hk : k ≤ 4) (hx : ∀ j ∈ selL m, -9223372036854775808 ≤ fld xs j ∧ fld xs j ≤ 9223372036854775807) : (accS m k xs).length ≤ 100 := by
  unfold accS
  rw [List.length_append]
  have h1 := joinTail_len (((selL m).take k).map fun j => Lib.itoa (fld xs j)) (fun x hx' => by
    obtain ⟨j, hj, rfl⟩ := List.mem_map.1 hx'
    have hb := hx j (List.mem_of_mem_take hj)
    exact itoa_len _ hb.1 hb.2)
  rw [List.length_map, List.length_take] at h1
  omega
set_option maxRecDepth 100000 in
set_option maxHeartbeats 4000000 in
theorem shown_good (m : Nat) (x1 x2 x3 x4 x5 x6 x7 : Int) (w : World) (hm : m < 11) (hx : ∀ x ∈ [x1, x2, x3, x4, x5, x6, x7], -9223372036854775808 ≤ x ∧ x ≤ 9223372036854775807) :
    Calls Tryd.prog 10 #[.agg #[.int .i64 ((m : Int) + 1), .int .i64 x1, .int .i64 x2, .int .i64 x3, .int .i64 x4, .int .i64 x5, .int .i64 x6, .int .i64 x7]] w (ShowPost [(m : Int) + 1, x1, x2, x3, x4, x5, x6, x7] w) := by
  obtain ⟨wx, hwx⟩ : ∃ wx, wx = w.alloc (.cells #[.int .i64 ((m : Int) + 1), .int .i64 x1, .int .i64 x2, .int .i64 x3, .int .i64 x4, .int .i64 x5, .int .i64 x6, .int .i64 x7] 29) := ⟨_, rfl⟩
  have hbx : Below w.heap.size w wx := by rw [hwx]; exact (Below.refl _ _).alloc (Nat.le_refl _) _
  have HN := hide (named_any m hm x1 x2 x3 x4 x5 x6 x7 wx)
  unfold NamPost at HN
  obtain ⟨xs, hxs⟩ : ∃ xs : List Int, xs = [(m : Int) + 1, x1, x2, x3, x4, x5, x6, x7] := ⟨_, rfl⟩
  rw [← hxs] at HN ⊢
  have hxb : ∀ j, 1 ≤ j ∧ j ≤ 7 → -9223372036854775808 ≤ fld xs j ∧ fld xs j ≤ 9223372036854775807 := fun j hj => by
    have h7 : j = 1 ∨ j = 2 ∨ j = 3 ∨ j = 4 ∨ j = 5 ∨ j = 6 ∨ j = 7 := by omega
    rw [hxs]
    rcases h7 with rfl | rfl | rfl | rfl | rfl | rfl | rfl <;> exact hx _ (by simp [fld])
  obtain ⟨hnd, hsl, hsj, hsa, hwl, hwn⟩ := wordT_facts ⟨m, hm⟩
  dsimp only at hnd hsl hsj hsa hwl hwn
  have hx0 : fld xs 0 = (m : Int) + 1 := by rw [hxs]; rfl
  have hne := word_ne ⟨m, hm⟩
  dsimp only at hne
  have HWX := hide hwx
  have HBX := hide hbx
  have HXB := hide hxb
  clear hwx hbx hx hxs hnd hsa hxb
  go_enter Tryd.func10, Tryd.ntmps10
  go_wp2_with fail
  rw [← unhide HWX]
  refine (unhide HN).mono ?_
  rintro _ w2 ⟨A, B, ca, cb, rfl, hrA, hrB, hb2⟩
  have HB2 := hide ((unhide HBX).trans (hb2.mono (unhide HBX).size))
  have HRA := hide hrA
  have HRB := hide hrB
  obtain ⟨na, hna⟩ : ∃ na, na = (selL m).length := ⟨_, rfl⟩
  obtain ⟨nb, hnb⟩ : ∃ nb, nb = (restL m).length := ⟨_, rfl⟩
  rw [← hna] at HRA ⊢ hsl
  rw [← hnb] at HRB ⊢
  have HNA := hide hna
  have HNB := hide hnb
  have hnb7 : nb ≤ 7 := by rw [hnb]; unfold restL; exact List.length_filter_le _ _
  clear hb2 hrA hrB hna hnb
  have HNEG := hide (fun j (hj : j ∈ restL m) (h : ¬ fld xs j = 0) => show showP xs = ([], 4) by
    have hk : (fld xs 0).toNat - 1 = m := by omega
    unfold showP
    rw [if_neg (by omega), hk, if_neg]
    intro hall
    exact h (by simpa using List.all_eq_true.1 hall j hj))
  have HPOS := hide (fun (h : ∀ j ∈ restL m, fld xs j = 0) => show showP xs = (accS m na xs, 0) by
    have hk : (fld xs 0).toNat - 1 = m := by omega
    unfold showP accS
    rw [if_neg (by omega), hk, if_pos (List.all_eq_true.2 fun j hj => by simpa using h j hj), Lib.join_cons, List.take_of_length_le (by rw [unhide HNA]; exact Nat.le_refl _)])
  clear hx0
  go_wp2_with fail
  go_loop [21] (fun x => ∃ k : Nat, k ≤ nb ∧ x = .int .i64 k ∧ Hid (∀ i j, i < k → (restL m)[i]? = some j → fld xs j = 0)) (fun x => nb - (intOf x).toNat)
  case atStart => exact ⟨0, Nat.zero_le _, rfl, hide (fun i j h => by omega)⟩
  case round =>
    obtain ⟨k, hk, rfl, HZ⟩ := hrel
    by_cases hlt : k < nb
    · obtain ⟨bb, ob, j, rfl, _, hj, hcj⟩ := val_at (fun j => Value.int .i64 (fld xs j)) (unhide HRB) hlt
      have hkI : (k : Int) < (nb : Int) := by omega
      by_cases hz : fld xs j = 0
      · have hz1 : (fld xs j != 0) = false := by simpa using hz
        have HZ2 := hide (show ∀ i j', i < k + 1 → (restL m)[i]? = some j' → fld xs j' = 0 from fun i j' hi hj' => by
          by_cases hik : i = k
          · subst hik
            rw [hj] at hj'
            injection hj' with hj'
            rw [← hj']
            exact hz
          · exact unhide HZ i j' (by omega) hj')
        clear hz hj
        go_wp2_with fail
        go_round
        case rel => exact ⟨k + 1, by omega, by go_num, HZ2⟩
        case measure => simp [intOf]; omega
      · have hz1 : (fld xs j != 0) = true := by simpa using hz
        have HS := hide (unhide HNEG j (List.mem_of_getElem? hj) hz)
        clear hz hj
        go_wp2_with fail
        go_ret2
        unfold ShowPost
        rw [unhide HS]
        exact ⟨rfl, unhide HB2⟩
    · obtain rfl : k = nb := by omega
      have HS := hide (unhide HPOS (fun j hj => by
        obtain ⟨i, hi⟩ := List.mem_iff_getElem?.1 hj
        exact unhide HZ i j (by have := (List.getElem?_eq_some_iff.1 hi).1; rw [unhide HNB]; exact this) hi))
      have HA0 := hide (show accS m 0 xs = wordL m by unfold accS; simp [Lib.joinTail])
      have HAL := hide (fun k (hk : k ≤ 4) => accS_len m k xs hwl hk (fun j hj => unhide HXB j (hsj j hj)))
      have HSJ := hide hsj
      clear hsj hlt
      go_wp2_with fail
      go_loop [4, 30] (fun v x => ∃ i : Nat, i ≤ na ∧ x = .int .i64 i ∧ v = .string (bstr (accS m i xs))) (fun _ x => na - (intOf x).toNat)
      case atStart => exact ⟨0, Nat.zero_le _, rfl, by rw [unhide HA0]⟩
      case round =>
        obtain ⟨i, hi, rfl, rfl⟩ := hrel
        by_cases hlt : i < na
        · obtain ⟨ba, oa, j, rfl, _, hj, hcj⟩ := val_at (fun j => Value.int .i64 (fld xs j)) (unhide HRA) hlt
          have hkI : (i : Int) < (na : Int) := by omega
          have hb := unhide HXB j (unhide HSJ j (List.mem_of_getElem? hj))
          have HD := hide (fun W => deci_any (fld xs j) W hb.1 hb.2)
          have hsn := accS_snoc m i j xs hj
          have hl1 := unhide HAL i (by omega)
          have hl2 := itoa_len _ hb.1 hb.2
          obtain ⟨S, hS⟩ : ∃ S, S = bstr (Lib.itoa (fld xs j)) := ⟨_, rfl⟩
          obtain ⟨R, hR⟩ : ∃ R, R = bstr (accS m i xs) := ⟨_, rfl⟩
          have hc1 : ByteArray.mk #[32] ++ S = bstr (32 :: Lib.itoa (fld xs j)) := by rw [hS]; exact bstr_append [32] _
          have hc2 : R ++ bstr (32 :: Lib.itoa (fld xs j)) = bstr (accS m (i + 1) xs) := by rw [hR, bstr_append, hsn]
          have hz1 : ¬ 9223372036854775807 < (ByteArray.mk #[32]).size + S.size := by rw [hS, bstr_size]; show ¬ _ < 1 + _; omega
          have hz2 : ¬ 9223372036854775807 < R.size + (bstr (32 :: Lib.itoa (fld xs j))).size := by rw [hR, bstr_size, bstr_size]; simp; omega
          rw [← hS] at HD
          rw [← hR]
          obtain ⟨S2, hS2⟩ : ∃ S2, S2 = bstr (32 :: Lib.itoa (fld xs j)) := ⟨_, rfl⟩
          obtain ⟨S3, hS3⟩ : ∃ S3, S3 = bstr (accS m (i + 1) xs) := ⟨_, rfl⟩
          rw [← hS2] at hc1 hc2 hz2
          rw [← hS3] at hc2
          have HS3 := hide hS3
          clear hj hb hsn hl1 hl2 hS hR hS2 hS3
          go_wp2_with fail
          refine (unhide HD _).mono ?_
          rintro _ _ ⟨rfl, rfl⟩
          go_wp2_with fail
          go_round
          case rel => exact ⟨i + 1, by omega, by go_num, by rw [unhide HS3]⟩
          case measure => simp [intOf]; omega
        · obtain rfl : i = na := by omega
          go_wp2_with fail
          go_ret2
          unfold ShowPost
          rw [unhide HS]
          exact ⟨rfl, unhide HB2⟩
end Go.Proofs.YtcmkcgegdclllaaDoor
