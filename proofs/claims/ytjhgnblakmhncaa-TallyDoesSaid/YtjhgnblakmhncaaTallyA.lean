/- Tallies: how one lies in memory; contracts of tally.May and of the reference's TallyMay; the walk of the law on them. Conditions: none beyond what each theorem states. -/
import Derived.Test.YtjhgnblakmhncaaIntIdx
import Derived.Test.YtjhgnblakmhncaaTabIdx
import Derived.Test.YtjhgnblakmhncaaCalm
import Derived.OpenShut
import Derived.Carry
namespace Go.Proofs.Ytjhgnblakmhncaa
open Go.RowKit Go.ChangeShapes Go.WideShapes Go.Deep
set_option linter.unusedVariables false

structure Tly where
  A : Option Addr
  n : Nat
  c : Nat
  rs : List IRw
  u : IRw
def Tly.cells (t : Tly) : List Value := [.slice t.A t.n t.c, t.u.val]
def Tly.val (t : Tly) : Value := .agg #[.slice t.A t.n t.c, .slice t.u.A t.u.n t.u.c]
def Tly.ok (t : Tly) (w : World) (B : Nat) : Prop := t.n ≤ t.c ∧ t.c ≤ maxLen ∧ Tab w B t.A t.n t.rs ∧ t.u.ok w B
theorem Tly.ok.below {t : Tly} {w w' : World} {B : Nat} (h : t.ok w B) (hb : Below B w w') : t.ok w' B := ⟨h.1, h.2.1, h.2.2.1.below hb, h.2.2.2.below hb⟩
theorem Tly.ok.more {t : Tly} {w : World} {B B' : Nat} (h : t.ok w B) (hB : B ≤ B') : t.ok w B' := ⟨h.1, h.2.1, h.2.2.1.more hB, h.2.2.2.more hB⟩
def Tly.mv (t : Tly) : List (List Int) := t.rs.map (·.zs)

theorem open_tally {H : Type} {enc : TypeId × Value → H} {w : World} {r : Reach} {b0 base : Nat} {spare : Nat → Bool} {held : Bool} {v : Value} {d : DataW H} {ps : List MemPlace}
    (hval : Value.okWide Try.prog w r b0 25 v) (h : DataW.Trod enc Try.prog w base spare held 25 v d ps) : ∃ t : Tly, v = t.val ∧ t.ok w w.heap.size := by
  obtain ⟨cs, rfl, hsz⟩ := okWide_struct Try.underlying25 hval
  obtain ⟨n, h⟩ := h
  obtain ⟨hl, ys, _, _, m, hf⟩ := struct_cells Try.underlying25 (by kernel_rfl) (by kernel_rfl) h
  obtain ⟨v0, y0, c0, _, t0⟩ := hf 0 _ rfl
  obtain ⟨v1, y1, c1, _, t1⟩ := hf 1 _ rfl
  obtain ⟨u, e1, hu⟩ := open_irow t1
  injection e1 with e1
  have hv0 : ∃ A n c, v0 = .slice A n c := by
    rcases open_slice Try.underlying22 t0 with ⟨e, _⟩ | ⟨a, len, cap, m, n, D, Pl, e, _⟩
    · injection e with e; exact ⟨_, _, _, e⟩
    · injection e with e; exact ⟨_, _, _, e⟩
  obtain ⟨A, k, c, rfl⟩ := hv0
  obtain ⟨h1, h2, _, rs, hT⟩ := open_table t0
  subst e1
  refine ⟨⟨A, k, c, rs, u⟩, ?_, h1, h2, hT, hu⟩
  obtain ⟨l⟩ := cs
  have hl' : l.length = 2 := hl
  match l, hl' with
  | [a, b], _ =>
    simp [Value.cells] at c0 c1
    subst c0 c1
    rfl

def badN (z : Int) : Bool := decide (z < 0) || decide (1048576 < z)
def fineP (l : List Int) (n : Nat) : Bool := decide (l.length = n) && !(l.any badN)
def tallyP (mv : List (List Int)) (us : List Int) : Bool := decide (1 ≤ us.length) && decide (us.length ≤ 8) && fineP us us.length && decide (mv.length = us.length) && !(mv.any fun l => !fineP l us.length)
theorem fineP_good {l : List Int} {n : Nat} (h : fineP l n = true) : l.length = n ∧ ∀ z ∈ l, 0 ≤ z ∧ z ≤ 1048576 := by
  simp only [fineP, Bool.and_eq_true, decide_eq_true_eq, Bool.not_eq_true', List.any_eq_false] at h
  refine ⟨h.1, fun z hz => ?_⟩
  have := h.2 z hz
  simp [badN] at this
  omega
theorem tallyP_good {mv : List (List Int)} {us : List Int} (h : tallyP mv us = true) : 1 ≤ us.length ∧ us.length ≤ 8 ∧ (∀ z ∈ us, 0 ≤ z ∧ z ≤ 1048576) ∧ mv.length = us.length ∧ ∀ l ∈ mv, l.length = us.length ∧ ∀ z ∈ l, 0 ≤ z ∧ z ≤ 1048576 := by
  simp only [tallyP, Bool.and_eq_true, decide_eq_true_eq, Bool.not_eq_true', List.any_eq_false] at h
  refine ⟨h.1.1.1.1, h.1.1.1.2, (fineP_good h.1.1.2).2, h.1.2, fun l hl => ?_⟩
  have := h.2 l hl
  simp at this
  exact fineP_good this

theorem fineClo_any (z : Int) (w : World) : Calls Try.prog 28 #[.int .i64 z] w fun x w' => x = .returned (.bool (badN z)) ∧ w = w' := by
  by_cases h0 : z < 0
  · have HF := hide (show badN z = true by simp [badN, h0])
    go_enter Try.func28, Try.ntmps28
    go_wp2_with fail
    go_ret
    exact ⟨ret_bool (unhide HF).symm, rfl⟩
  · have h1 : 0 ≤ z := by omega
    clear h0
    go_enter Try.func28, Try.ntmps28
    go_wp2_with fail
    go_ret
    exact ⟨rfl, rfl⟩

theorem fine_any (r : IRw) (n : Nat) (B : Nat) (w : World) (hr : r.ok w B) :
    Calls Try.prog 16 #[.slice r.A r.n r.c, .int .i64 n] w fun e w' => e = .returned (.bool (fineP r.zs n)) ∧ w = w' := by
  obtain ⟨A, k, c, zs⟩ := r
  obtain ⟨hl, hkc, hcm, hr⟩ := hr
  dsimp only at hl hkc hcm hr ⊢
  by_cases he : k = n
  · subst he
    have H := hide (intContains_any 28 #[] badN A k c zs B (fun W => w = W) w hl (by omega) (fun W hW => hW ▸ hr) rfl
      (callFunc_enters Try.func28 (by kernel_rfl) rfl) (fun z W _ hW => (fineClo_any z W).mono fun x w' ⟨hx, hw'⟩ => ⟨hx, hW.trans hw'⟩))
    have HF := hide (show fineP zs k = !(zs.any badN) by simp [fineP, hl])
    generalize zs.any badN = x at H HF
    unfold maxLen at hcm
    clear hr hl
    go_enter Try.func16, Try.ntmps16
    go_wp2_with fail
    refine (unhide H).mono ?_
    rintro _ _ ⟨rfl, rfl⟩
    go_wp2_with fail
    go_ret
    exact ⟨ret_bool (unhide HF).symm, rfl⟩
  · have HF := hide (show fineP zs n = false by simp [fineP, hl, he])
    have h1 : (((k : Nat) : Int) == (n : Nat)) = false := by simp; omega
    have h2 : (k == n) = false := by simp; omega
    unfold maxLen at hcm
    clear hr hl he
    go_enter Try.func16, Try.ntmps16
    go_wp2_with fail
    go_ret
    exact ⟨ret_bool (unhide HF).symm, rfl⟩

theorem mayClo_any (r : IRw) (n : Nat) (p : Addr) (B : Nat) (w : World) (hr : r.ok w B) (hp : w.cell? p = some (.int .i64 n)) :
    Calls Try.prog 18 #[.slice r.A r.n r.c, .pointer (some p)] w fun x w' => x = .returned (.bool (!fineP r.zs n)) ∧ w = w' := by
  have H := hide (fine_any r n B w hr)
  clear hr
  go_enter Try.func18, Try.ntmps18
  go_wp2_with fail
  refine (unhide H).mono ?_
  rintro _ _ ⟨rfl, rfl⟩
  go_wp2_with fail
  go_ret
  exact ⟨rfl, rfl⟩

set_option maxHeartbeats 800000 in
theorem tallyMay_any (t : Tly) (B : Nat) (w : World) (ht : t.ok w B) (hB : B ≤ w.heap.size) :
    Calls Try.prog 7 #[t.val] w fun e w' => e = .returned (.bool (tallyP t.mv t.u.zs)) ∧ Below w.heap.size w w' := by
  obtain ⟨A, m, c, rs, ⟨uA, n, uc, us⟩⟩ := t
  have ht1 := ht.1
  have ht2 := ht.2.1
  have HT := hide (ht.2.2.1.more hB)
  have HU := hide (ht.2.2.2.more hB)
  have HML := hide (show (rs.map (·.zs)).length = m by rw [List.length_map]; exact ht.2.2.1.1)
  have hul : us.length = n := ht.2.2.2.1
  have hu1 := ht.2.2.2.2.1
  have hu2 := ht.2.2.2.2.2.1
  unfold maxLen at ht2 hu2
  dsimp only at ht1 ht2 hu1 hu2
  unfold Tly.val Tly.mv
  dsimp only
  clear ht
  obtain ⟨wx, hwx⟩ : ∃ wx, wx = (w.alloc (.cells #[.slice A m c, .slice uA n uc] 25)).alloc (.cells #[.int .i64 n] 3) := ⟨_, rfl⟩
  have HBX := hide (show Below w.heap.size w wx by rw [hwx]; exact ((Below.refl _ _).alloc (Nat.le_refl _) _).alloc (by simp) _)
  have hn1 : wx.cell? ⟨w.heap.size + 1, 0, none⟩ = some (.int .i64 n) := by
    have h := (Blk.new (w.alloc (.cells #[.slice A m c, .slice uA n uc] 25)) 3 #[.int .i64 n]).cell 0
    rw [← hwx] at h
    simpa using h
  have HF1 := hide (fine_any ⟨uA, n, uc, us⟩ n w.heap.size wx ((unhide HU).below (unhide HBX)))
  have HC := hide (rowContains_any 18 #[.pointer (some ⟨w.heap.size + 1, 0, none⟩)] (fun r => !fineP r.zs n) A m c rs w.heap.size (fun W => wx = W) wx (by unfold maxLen; omega) (fun W hW => hW ▸ ((unhide HT).below (unhide HBX))) rfl
    (callFunc_enters Try.func18 (by kernel_rfl) rfl)
    (fun r W hr hW => by subst hW; exact mayClo_any r n _ w.heap.size wx (((unhide HT).below (unhide HBX)).2.2 r hr) hn1))
  have HP := hide (show tallyP (rs.map (·.zs)) us = (decide (1 ≤ n) && decide (n ≤ 8) && fineP us n && decide (m = n) && !(rs.any fun r => !fineP r.zs n)) by
    unfold tallyP
    rw [hul, unhide HML, List.any_map]
    rfl)
  rw [hwx] at HF1 HC HBX
  clear hn1 hwx hul
  by_cases h1 : 1 ≤ n
  · by_cases h8 : n ≤ 8
    · cases hf : fineP us n with
      | false =>
        have HG := hide (show tallyP (rs.map (·.zs)) us = false by rw [unhide HP, hf]; simp)
        rw [hf] at HF1
        clear HP hf
        go_enter Try.func7, Try.ntmps7
        go_wp2_with fail
        refine (unhide HF1).mono ?_
        rintro _ _ ⟨rfl, rfl⟩
        go_wp2_with fail
        go_ret
        exact ⟨ret_bool (unhide HG).symm, unhide HBX⟩
      | true =>
        by_cases he : m = n
        · subst he
          have HG := hide (show tallyP (rs.map (·.zs)) us = !(rs.any fun r => !fineP r.zs m) by rw [unhide HP, hf]; simp [h1, h8])
          rw [hf] at HF1
          generalize (rs.any fun r => !fineP r.zs m) = x at HC HG
          clear HP hf
          go_enter Try.func7, Try.ntmps7
          go_wp2_with fail
          refine (unhide HF1).mono ?_
          rintro _ _ ⟨rfl, rfl⟩
          go_wp2_with fail
          refine (unhide HC).mono ?_
          rintro _ _ ⟨rfl, rfl⟩
          go_wp2_with fail
          go_ret
          exact ⟨ret_bool (unhide HG).symm, unhide HBX⟩
        · have HG := hide (show tallyP (rs.map (·.zs)) us = false by rw [unhide HP]; simp [he])
          have e1 : (((m : Nat) : Int) == (n : Nat)) = false := by simp; omega
          have e2 : (m == n) = false := by simp; omega
          rw [hf] at HF1
          clear HP hf he
          go_enter Try.func7, Try.ntmps7
          go_wp2_with fail
          refine (unhide HF1).mono ?_
          rintro _ _ ⟨rfl, rfl⟩
          go_wp2_with fail
          go_ret
          exact ⟨ret_bool (unhide HG).symm, unhide HBX⟩
    · have HG := hide (show tallyP (rs.map (·.zs)) us = false by rw [unhide HP]; simp [h8])
      have h8' : 8 < n := by omega
      clear HP h8
      go_enter Try.func7, Try.ntmps7
      go_wp2_with fail
      go_ret
      exact ⟨ret_bool (unhide HG).symm, unhide HBX⟩
  · obtain rfl : n = 0 := by omega
    have HG := hide (show tallyP (rs.map (·.zs)) us = false by rw [unhide HP]; simp)
    clear HP h1
    go_enter Try.func7, Try.ntmps7
    go_wp2_with fail
    go_ret
    exact ⟨ret_bool (unhide HG).symm, unhide HBX⟩
end Go.Proofs.Ytjhgnblakmhncaa
