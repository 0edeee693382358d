/- Contract of slices.Delete of one hold. Conditions: none beyond what each theorem states. -/
import Derived.Test.YtiljallignlbgaaHoldC
import Derived.Test.YtiljallignlbgaaOwnG
namespace Go.Proofs.Ytiljallignlbgaa
open Go.RowKit
set_option linter.unusedVariables false

theorem own_setCells_tail {base g n cap size : Nat} {e : TypeId} {xs : List Value} : ∀ (zs : List Value) (o : Nat) (w : World), w.ownsRow base e size (.slice (some ⟨g, 0, none⟩) n cap) n xs → n * size ≤ o → (w.setCells g o zs).ownsRow base e size (.slice (some ⟨g, 0, none⟩) n cap) n xs
  | [], o, w, h, ho => h
  | z :: zs, o, w, h, ho => by
    have h1 := h.stored o z
    rw [List.set_eq_of_length_le (by rw [h.1]; exact ho)] at h1
    exact own_setCells_tail zs (o + 1) _ h1.1 (by omega)
theorem hd_one (l : List Hd) : ∀ u ∈ l.flatMap Hd.cells, u.oneCell' = true := by
  intro u hu
  obtain ⟨e, _, he⟩ := List.mem_flatMap.1 hu
  simp [Hd.cells] at he
  rcases he with rfl | rfl | rfl <;> rfl
/-- a row of holds of the call's own, with some struck -/
def HdPost (base : Nat) (v0 : Value) (l : List Hd) (w : World) (e : Ending) (w' : World) : Prop :=
  ∃ v, e = .returned v ∧ w'.ownsRow base 96 3 v l.length (l.flatMap Hd.cells) ∧ Only (fun k => v0.ownBlock = some k) w w' ∧ ∀ k, v.ownBlock = some k → v0.ownBlock = some k
set_option maxRecDepth 100000 in
set_option maxHeartbeats 1000000 in
theorem hdDelete_any (base : Nat) (A : Option Addr) (m c i : Nat) (l : List Hd) (w : World) (him : i ≤ m) (hm : m ≤ 1000) (hown : w.ownsRow base 96 3 (.slice A (m + 1) c) (m + 1) (l.flatMap Hd.cells)) (hl : l.length = m + 1) :
    Calls Try.prog 47 #[.slice A (m + 1) c, .int .i64 i, .int .i64 (i + 1)] w (HdPost base (.slice A (m + 1) c) (l.take i ++ l.drop (i + 1)) w) := by
  obtain ⟨i0, hi, hz0, hz1, hz2⟩ := hold_info
  obtain ⟨g, cap, hv, hbg, hglt⟩ := hown.form (by omega)
  injection hv with hA hn hc
  clear hn
  subst hA hc
  obtain ⟨_, hnc, hcm⟩ := own_caps hown
  have b1 : (i : Int) ≤ (i : Int) + 1 := by omega
  have b2 : (i : Int) + 1 ≤ (m : Int) + 1 := by omega
  have b2' : (i : Int) ≤ (m : Int) := by omega
  have b3 : (m : Int) + 1 ≤ (c : Int) := by omega
  have b4 : ((i : Int) == (i : Int) + 1) = false := by simp; omega
  have b5 : ¬ c = m := by omega
  have htk := own_take hown (show i ≤ m + 1 by omega)
  rw [flat_take Hd.cells_len] at htk
  have hdl : ((l.drop (i + 1)).flatMap Hd.cells).length = (m - i) * 3 := by rw [flat_len Hd.cells_len, List.length_drop, hl, Nat.add_sub_add_right]
  have hdc : ∀ ad, (if c = i + 1 then some (⟨g, 0, none⟩ : Addr) else some ⟨g, (i + 1) * 3, none⟩) = some ad → ∀ j u, ((l.drop (i + 1)).flatMap Hd.cells)[j]? = some u → w.cell? (ad.add j) = some u := by
    intro ad had j u hj
    have hjl := (List.getElem?_eq_some_iff.1 hj).1
    rw [hdl] at hjl
    rw [if_neg (by omega)] at had
    injection had with had
    subst had
    rw [← flat_drop Hd.cells_len, List.getElem?_drop] at hj
    rw [Addr.add_lit]
    exact own_cells hown ((i + 1) * 3 + j) hj
  have HTK := hide htk
  have HDL := hide hdl
  have HDC := hide hdc
  have hroom : i + (m - i) ≤ c := by omega
  have hnone : (if c = i + 1 then some (⟨g, 0, none⟩ : Addr) else some ⟨g, (i + 1) * 3, none⟩) = none → m - i = 0 ∧ c - (i + 1) = 0 := by split <;> (intro h; cases h)
  have HNONE := hide hnone
  have he : i + (m - i) = m := by omega
  have HE := hide he
  have HLN := hide (show (l.take i ++ l.drop (i + 1)).length = m by simp; omega)
  unfold maxLen at hcm
  clear hown hl htk hdl hdc hnone he
  go_enter Try.func47, Try.ntmps47
  go_wp2_with fail
  refine wp_region_draw_full [0, 1, 3, 4] [2, 5] [] [] 6 [7] (by kernel_rfl) (by kernel_rfl) (by intro c a d v w h; cases d <;> exact h) ?_
  simp only [pickOps, List.map_cons, List.map_nil, List.getD_cons_zero, List.getD_cons_succ]
  repeat (go_big_quiet_step (fail))
  refine wpQuiet_nil ?_
  repeat (go_big_quiet_step (fail))
  refine wpQuiet_nil (wpQuiet_nil ?_)
  rintro _ ⟨nq, rfl⟩
  simp only [wpAl]
  generalize (if c = i + 1 then some (⟨g, 0, none⟩ : Addr) else some ⟨g, (i + 1) * 3, none⟩) = ao at *
  refine wpList_append_fits_any _ rfl (.tmp 22) (.tmp 25) _ rfl base 96 i0 3 Try.underlying49 hi hz1 g i c ((l.take i).flatMap Hd.cells) rfl (unhide HTK) _ (m - i) _ ((l.drop (i + 1)).flatMap Hd.cells) rfl (unhide HDL) (unhide HNONE) (unhide HDC) (hd_one _) hroom ?_
  intro w4 hown4 hgr4
  rw [unhide HE] at hown4 ⊢
  rw [← List.flatMap_append] at hown4
  obtain ⟨zs, hzl, hclr⟩ := run_clear_rows (P := Try.prog) w4 49 96 i0 _ 3 Try.underlying49 hi hz0 rfl (by intro u hu; simp [Value.cells] at hu; rcases hu with rfl | rfl <;> rfl) g (m * 3) 1 (c - m) (by omega)
    (fun r hr => (own_isSome hown4 (m * 3 + r) (by omega)).1) (fun r hr => (own_isSome hown4 (m * 3 + r) (by omega)).2)
  have HOW := hide (own_setCells_tail zs (m * 3) w4 hown4 (Nat.le_refl _))
  have hO4 : Only (fun k => (Value.slice (some ⟨g, 0, none⟩) (m + 1) c).ownBlock = some k) w w4 := Only.grown ((Only.refl _ w).drewN nq) hgr4 (fun x hx _ => by injection hx with hx; subst hx; rfl)
  have HOO := hide (only_setCells (g := g) zs (m * 3) w4 hO4 rfl)
  clear hO4 hown4 hgr4 hzl
  go_wp2_with fail
  go_ret
  exact ⟨_, rfl, by rw [unhide HLN]; exact unhide HOW, unhide HOO, fun k hk => hk⟩
end Go.Proofs.Ytiljallignlbgaa
