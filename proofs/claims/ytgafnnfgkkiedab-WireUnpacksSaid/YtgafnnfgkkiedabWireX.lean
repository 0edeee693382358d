/- The walk of the law on wire.Unpack: it returns true, and writes nothing that was there. Conditions: none beyond what each theorem states. -/
import Derived.Test.YtgafnnfgkkiedabWireW
namespace Go.Proofs.Ytgafnnfgkkiedab
open Go.RowKit
set_option linter.unusedVariables false

theorem wf_u8_bounds {n : Int} (h : (Lit.int .u8 n).wf = true) : 0 ≤ n ∧ n ≤ 255 := by
  have hmin : IntKind.u8.min = 0 := rfl
  have hmax : IntKind.u8.max = 255 := rfl
  simp only [Lit.wf, Bool.and_eq_true, decide_eq_true_eq] at h
  omega
theorem own_len {w : World} {base size n : Nat} {e : TypeId} {v : Value} {xs : List Value} (h : w.ownsRow base e size v n xs) : n ≤ 9223372036854775807 := by
  rcases h.2 with ⟨_, h0⟩ | ⟨g, cap, cur, e1, _, _, h2, h3, _⟩
  · omega
  · unfold maxLen at h3; omega

theorem walk_WireUnpacks (A : Option Addr) (n c : Nat) (ws : List Int) (A' : Option Addr) (n' c' : Nat) (bs : List Int) (w : World)
    (l : n ≤ c) (m : c ≤ maxLen) (e : ws.length = n) (hr : Reads w w.heap.size 1 A n (ws.map (.int .i64))) (_hw : ∀ z ∈ ws, (Lit.int .i64 z).wf = true)
    (l' : n' ≤ c') (m' : c' ≤ maxLen) (e' : bs.length = n') (hr' : Reads w w.heap.size 1 A' n' (bs.map (.int .u8))) (hw' : ∀ z ∈ bs, (Lit.int .u8 z).wf = true) :
    Calls Try.prog 5 #[.slice A n c, .slice A' n' c'] w fun e w' => e = .returned (.bool true) ∧ Below w.heap.size w w' := by
  unfold maxLen at m m'
  have hz : ∀ z ∈ bs, 0 ≤ z ∧ z ≤ 255 := fun z hz => wf_u8_bounds (hw' z hz)
  have H1 := hide (wireUnpack_any A n c ws A' n' c' bs w e (by omega) hr e' (by omega) l' hr' hz)
  have H2 := hide (fun W (hW : Below w.heap.size w W) => wireUnpack_ref A n c ws A' n' c' bs W e (by omega) ((hr.below hW).more hW.size) e' (by omega) l' ((hr'.below hW).more hW.size) hz)
  clear e hr l m e' hr' l' m' hz hw' _hw
  go_enter Try.func5, Try.ntmps5
  go_wp2_with fail
  refine (unhide H1).mono ?_
  rintro e w1 ⟨v1, rfl, ho1, hb1⟩
  obtain ⟨A1, c1, rfl, hc1⟩ := own_slice ho1
  have HB1 := hide hb1
  have HO1 := hide ho1
  clear hb1 ho1
  go_wp2_with fail
  refine (unhide H2 _ (unhide HB1)).mono ?_
  rintro e w2 ⟨v2, rfl, ho2, hb2⟩
  obtain ⟨A2, c2, rfl, hc2⟩ := own_slice ho2
  have hr1 := ((Reads.of_own (unhide HO1)).below hb2).more hb2.size
  have hr2 := Reads.of_own ho2
  have HS := hide (sameInts_any A1 A2 _ c1 c2 (unpackP ws bs).1 _ w2 rfl (own_len ho2) hr1 hr2)
  have HB2 := hide ((unhide HB1).trans (hb2.mono (unhide HB1).size))
  clear ho2 hb2 hr1 hr2
  go_wp2_with fail
  refine (unhide HS).mono ?_
  rintro e w3 ⟨rfl, nq, rfl⟩
  go_wp2_with fail
  go_ret
  exact ⟨by simp, below_drewN (unhide HB2) _⟩
end Go.Proofs.Ytgafnnfgkkiedab
