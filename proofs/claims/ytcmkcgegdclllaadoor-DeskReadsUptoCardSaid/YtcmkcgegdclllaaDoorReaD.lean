/- Contracts of desk.Read's closure and of slices.IndexFunc over the words. Conditions: none beyond what each theorem states. -/
import Derived.Test.YtcmkcgegdclllaaDoorReaP
import Derived.Test.YtcmkcgegdclllaaDoorDesG
namespace Go.Proofs.YtcmkcgegdclllaaDoor
open Go.RowKit
set_option linter.unusedVariables false

/-- the first word of the line, where the parts stand -/
structure Part0 (w : World) (pb : Nat) (x : List UInt8) : Prop where
  lt : pb < w.heap.size
  row : ∃ sb n c, w.cell? ⟨pb, 0, none⟩ = some (.slice (some ⟨sb, 0, none⟩) n c) ∧ 0 < n ∧ sb < w.heap.size ∧ w.cell? ⟨sb, 0, none⟩ = some (.string (bstr x))
theorem Part0.below {w w' : World} {pb : Nat} {x : List UInt8} (h : Part0 w pb x) (hb : Below w.heap.size w w') : Part0 w' pb x := by
  obtain ⟨lt, sb, n, c, h1, h2, h3, h4⟩ := h
  exact ⟨Nat.lt_of_lt_of_le lt hb.size, sb, n, c, (hb.cell (p := ⟨pb, 0, none⟩) lt).trans h1, h2, Nat.lt_of_lt_of_le h3 hb.size, (hb.cell (p := ⟨sb, 0, none⟩) h3).trans h4⟩
set_option maxRecDepth 100000 in
theorem readFn_any (a b : ByteArray) (x : List UInt8) (pb : Nat) (w : World) (h : Part0 w pb x) :
    Calls Tryd.prog 24 #[.agg #[.string a, .string b], .pointer (some ⟨pb, 0, none⟩)] w fun e w' => e = .returned (.bool (a.toList == (bstr x).toList)) ∧ Below w.heap.size w w' := by
  obtain ⟨X, hX⟩ : ∃ X, X = bstr x := ⟨_, rfl⟩
  obtain ⟨wx, hwx⟩ : ∃ wx, wx = w.alloc (.cells #[.string a, .string b] 40) := ⟨_, rfl⟩
  obtain ⟨q, hq⟩ : ∃ q, q = w.heap.size := ⟨_, rfl⟩
  have hb := (show Below w.heap.size w wx by rw [hwx]; exact (Below.refl _ _).alloc (Nat.le_refl _) _)
  have kq := (show Blk wx q 40 #[.string a, .string b] by rw [hwx, hq]; exact Blk.new _ _ _)
  obtain ⟨lt, sb, n, c, h1, h2, h3, h4⟩ := h.below hb
  have q0 : wx.cell? ⟨q, 0, none⟩ = some (.string a) := kq.cell 0
  rw [← hX] at h4 ⊢
  have hn : (0 : Int) < (n : Int) := by omega
  have HB := hide hb
  have HQ := hide hq
  have HW := hide hwx
  clear hX hwx hq hb kq lt h3 h h2
  go_enter Tryd.func24, Tryd.ntmps24
  go_upto_region 1 with fail
  rw [← unhide HQ, ← unhide HW]
  go_quiet (fail)
  go_wp2_with fail
  go_ret
  exact ⟨rfl, below_drewN (unhide HB) _⟩
/-- the words' table -/
def WordsAt (w : World) : Prop := 0 < w.heap.size ∧ ∀ m : Nat, m < 11 → w.cell? ⟨0, m * 2, none⟩ = some (.string (bstr (wordL m))) ∧ w.cell? ⟨0, m * 2 + 1, none⟩ = some (.string (bstr (signL m)))
theorem WordsAt.below {w w' : World} (h : WordsAt w) (hb : Below w.heap.size w w') : WordsAt w' :=
  ⟨Nat.lt_of_lt_of_le h.1 hb.size, fun m hm => ⟨(hb.cell (p := ⟨_, m * 2, none⟩) h.1).trans (h.2 m hm).1, (hb.cell (p := ⟨_, m * 2 + 1, none⟩) h.1).trans (h.2 m hm).2⟩⟩
def IdxPost (x : List UInt8) (w : World) (e : Ending) (w' : World) : Prop :=
  ∃ r : Int, e = .returned (.int .i64 r) ∧ ((∃ m : Nat, m < 11 ∧ wordL m = x ∧ r = m) ∨ (r = -1 ∧ ∀ m : Nat, m < 11 → wordL m ≠ x)) ∧ Below w.heap.size w w'
set_option maxRecDepth 100000 in
set_option maxHeartbeats 4000000 in
theorem wordIndex_any (x : List UInt8) (pb : Nat) (w : World) (h : Part0 w pb x) (hT : WordsAt w) :
    Calls Tryd.prog 23 #[.slice (some ⟨0, 0, none⟩) 11 11, .func (.func 24) #[] #[.pointer (some ⟨pb, 0, none⟩)]] w (IdxPost x w) := by
  have HP := hide h
  have HT := hide hT
  clear h hT
  go_enter Tryd.func23, Tryd.ntmps23
  go_wp2_with fail
  go_loopw [8] (fun i wr => ∃ (k : Nat), k ≤ 11 ∧ i = .int .i64 k ∧ Hid (Below w.heap.size w wr) ∧ Hid (∀ m : Nat, m < k → wordL m ≠ x)) (fun i _ => 11 - (intOf i).toNat)
  case atStart => exact ⟨0, Nat.zero_le _, rfl, Below.refl _ _, hide (fun m hm => by omega)⟩
  case round =>
    obtain ⟨k, hk, rfl, HB, HN⟩ := hrel
    by_cases hlt : k < 11
    · have hkI : (k : Int) < 11 := by omega
      have H2 := hide (readFn_any (bstr (wordL k)) (bstr (signL k)) x pb wr ((unhide HP).below (unhide HB)))
      have c0 := (((unhide HT).below (unhide HB)).2 k hlt).1
      have c1 := (((unhide HT).below (unhide HB)).2 k hlt).2
      have hE := hide (show ((bstr (wordL k)).toList == (bstr x).toList) = (wordL k == x) by simp [bstr])
      obtain ⟨bo, hbo⟩ : ∃ bo, bo = ((bstr (wordL k)).toList == (bstr x).toList) := ⟨_, rfl⟩
      rw [← hbo] at H2 hE
      obtain ⟨A, hA⟩ : ∃ A, A = bstr (wordL k) := ⟨_, rfl⟩
      obtain ⟨B, hB⟩ : ∃ B, B = bstr (signL k) := ⟨_, rfl⟩
      rw [← hA, ← hB] at H2
      rw [← hA] at c0
      rw [← hB] at c1
      clear hbo hA hB
      go_wp2_with fail
      refine (unhide H2).mono ?_
      rintro _ w2 ⟨rfl, hb2⟩
      have HB2 := hide ((unhide HB).trans (hb2.mono (unhide HB).size))
      clear hb2 c0 c1
      cases bo
      · have HN2 := hide (show ∀ m : Nat, m < k + 1 → wordL m ≠ x from fun m hm => by
          by_cases h : m < k
          · exact unhide HN m h
          · obtain rfl : m = k := by omega
            have h1 := unhide hE
            simpa using h1.symm)
        go_wp2_with fail
        go_roundw
        case rel => exact ⟨k + 1, by omega, by go_num, HB2, HN2⟩
        case measure => simp [intOf]; omega
      · have HE := hide (show wordL k = x by have h1 := unhide hE; simpa using h1.symm)
        go_wp2_with fail
        go_ret
        exact ⟨_, rfl, Or.inl ⟨k, hlt, unhide HE, rfl⟩, unhide HB2⟩
    · obtain rfl : k = 11 := by omega
      go_wp2_with fail
      go_ret
      exact ⟨_, rfl, Or.inr ⟨rfl, unhide HN⟩, unhide HB⟩
end Go.Proofs.YtcmkcgegdclllaaDoor
