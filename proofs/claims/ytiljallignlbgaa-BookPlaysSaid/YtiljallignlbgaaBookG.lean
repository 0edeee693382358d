/- The reference's Broker: Gives. Conditions: none beyond what each theorem states. -/
import Derived.Test.YtiljallignlbgaaBookF
import Derived.Test.YtiljallignlbgaaShareC
namespace Go.Proofs.Ytiljallignlbgaa
open Go.RowKit
set_option linter.unusedVariables false

/-- what holds of a broker, for the walk -/
structure BrS.ok (s : BrS) (nb : Nat) : Prop where
  lw : s.wants.length = nb
  lg : s.given.length = nb
  ls : s.since.length = nb
  lq : s.quotas.length = nb
  rd : 0 ≤ s.rounds ∧ s.rounds ≤ 8
  res : 0 ≤ s.reserve ∧ s.reserve ≤ 1048576
  w : ∀ x ∈ s.wants, 0 ≤ x ∧ x ≤ 1048576
  g : ∀ i, i < nb → 0 ≤ s.given.getD i 0 ∧ s.given.getD i 0 ≤ s.wants.getD i 0
  q : ∀ i, i < nb → 0 ≤ s.since.getD i 0 ∧ s.since.getD i 0 ≤ s.quotas.getD i 0 ∧ s.quotas.getD i 0 ≤ 1048576
theorem brs_ok {ticks : Int} {nb : Nat} {s : BkS} {r : BrS} {K : Int} (h : SameB ticks nb s r) (ho : s.ok nb K) (ht : 1 ≤ ticks ∧ ticks ≤ 8) : r.ok nb := by
  refine ⟨by rw [h.w]; exact ho.lw, by rw [h.g]; exact ho.lg, h.ls, h.lq, ?_, ?_, by rw [h.w]; exact ho.w, fun i hi => ?_, h.bd⟩
  · rw [h.rd]
    have h1 := Int.emod_nonneg s.round (show ticks ≠ 0 by omega)
    have h2 := Int.emod_lt_of_pos s.round (show 0 < ticks by omega)
    omega
  · rw [h.res]
    have := ho.res
    omega
  · rw [h.g, h.w]
    have h1 := ho.gw i _ _ (get_of_lt ho.lg hi) (get_of_lt ho.lw hi)
    have h2 := ho.g _ (List.mem_of_getElem? (get_of_lt ho.lg hi))
    exact ⟨h2, h1⟩
theorem due_nn {s : BrS} {nb i : Nat} (h : s.ok nb) (hi : i < nb) : 0 ≤ s.due i := by
  have h1 := h.g i hi
  have h2 := h.q i hi
  unfold BrS.due
  split <;> omega
theorem due_again {s : BrS} {nb i : Nat} (h : s.ok nb) (hi : i < nb) : (gvAt s i).due i = 0 := by
  have h1 := h.g i hi
  have h2 := h.q i hi
  have hg : (gvAt s i).given.getD i 0 = s.given.getD i 0 + s.due i := by simp only [gvAt]; rw [getD_set (by rw [h.lg]; exact hi), if_pos rfl]
  have hs : (gvAt s i).since.getD i 0 = s.since.getD i 0 + s.due i := by simp only [gvAt]; rw [getD_set (by rw [h.ls]; exact hi), if_pos rfl]
  have hd : s.due i = if s.given.getD i 0 < s.wants.getD i 0 ∧ s.since.getD i 0 < s.quotas.getD i 0 then min (s.wants.getD i 0 - s.given.getD i 0) (s.quotas.getD i 0 - s.since.getD i 0) else 0 := rfl
  have hw : (gvAt s i).wants = s.wants := rfl
  have hq : (gvAt s i).quotas = s.quotas := rfl
  unfold BrS.due
  rw [hg, hs, hw, hq, if_neg]
  rw [hd]
  split <;> omega
theorem set_self {l : List Int} {i n : Nat} (hl : l.length = n) (hi : i < n) : l.set i (l.getD i 0 + 0) = l := by
  apply List.ext_getElem?
  intro j
  rw [List.getElem?_set]
  split
  · rename_i e; subst e
    rw [if_pos (by omega), get_of_lt hl hi, Int.add_zero]
  · rfl
theorem gvAt_zero {s : BrS} {nb i : Nat} (h : s.ok nb) (hi : i < nb) (hd : s.due i = 0) : gvAt s i = s := by
  unfold gvAt
  rw [hd, set_self h.lg hi, set_self h.ls hi, Int.sub_zero]
/-- behind one share -/
theorem br_step {w : World} {base nb : Nat} {p : BrL} {most ticks : Int} {s : BrS} {i : Nat} (h : BrAt w base nb p most ticks s) (hg : i < s.given.length) (hq : i < s.since.length) (x y z : Int) (hx : x = s.given.getD i 0 + s.due i) (hy : y = s.since.getD i 0 + s.due i) (hz : z = s.reserve - s.due i) :
    BrAt (((w.setCell ⟨p.gg, i, none⟩ (.int .i64 x)).setCell ⟨p.gs, i, none⟩ (.int .i64 y)).setCell ⟨p.g, 4, none⟩ (.int .i64 z)) base nb p most ticks (gvAt s i) := by
  subst hx hy hz
  obtain ⟨n1, n2, n3, n4⟩ := h.ng
  obtain ⟨m1, m2, m3, m4, m5, m6⟩ := h.ne
  refine ⟨?_, ?_, ?_, ?_, ?_, h.cap, h.low, h.ne⟩
  · exact ((h.blk.far n2 _).far n3 _).set_ 4 _
  · exact Blk.far (Blk.far (Blk.far h.rw_ m1 _) m2 _) (Ne.symm n1) _
  · exact Blk.far (Blk.far (h.rg.set_ hg _) m4 _) (Ne.symm n2) _
  · have h1 : IRow (w.setCell ⟨p.gg, i, none⟩ (.int .i64 (s.given.getD i 0 + s.due i))) p.gs s.since [] := Blk.far h.rs (Ne.symm m4) _
    exact Blk.far (h1.set_ hq _) (Ne.symm n3) _
  · exact Blk.far (Blk.far (Blk.far h.rq (Ne.symm m5) _) (Ne.symm m6) _) (Ne.symm n4) _
def BrGives (w : World) (base nb : Nat) (p : BrL) (most ticks : Int) (r : BrS × (List Int × Int)) (e : Ending) (w' : World) : Prop :=
  ∃ (p' : BrL) (A : Option Addr) (c : Nat), e = .returned (.tuple #[.slice A nb c, .int .i64 r.2.2]) ∧ w'.ownsRow w.heap.size 3 1 (.slice A nb c) nb (r.2.1.map (.int .i64)) ∧ BrAt w' base nb p' most ticks r.1 ∧
    p'.g = p.g ∧ (∀ k, p'.has k → p.has k ∨ w.heap.size ≤ k) ∧ Only p.has w w' ∧ (∀ q, (Value.slice A nb c).ownBlock = some q → ¬ p'.has q)
theorem br_open {w4 : World} {base B4 nb : Nat} {p : BrL} {most ticks : Int} {s : BrS} {v : Value} {q : List Int} (h : BrAt w4 base nb p most ticks s) (hlt : ∀ k, p.has k → k < B4) (hB : base ≤ B4) (hq : w4.ownsRow B4 3 1 v nb (q.map (.int .i64))) (hnb : 1 ≤ nb ∧ nb ≤ 8) :
    ∃ gq cq T, v = .slice (some ⟨gq, 0, none⟩) nb cq ∧ B4 ≤ gq ∧ gq < w4.heap.size ∧ BrAt (((w4.setCell ⟨p.g, 9, none⟩ v).setCell ⟨p.g, 8, none⟩ (.slice (some ⟨w4.heap.size, 0, none⟩) nb nb)).alloc (.cells (madeCells #[Value.int .i64 0] nb) 3)) base nb ⟨p.g, p.gw, p.gg, w4.heap.size, gq, cq, T⟩ most ticks { s with quotas := q, since := List.replicate nb 0 } := by
  obtain ⟨gq, cq, T, rfl, hg, hgl, hc, hcm, hT, hI⟩ := own_irow hq hnb.1
  have n0 := hlt p.g (.inl rfl)
  have n1 := hlt p.gw (.inr (.inl rfl))
  have n2 := hlt p.gg (.inr (.inr (.inl rfl)))
  have l0 := h.lt p.g (.inl rfl)
  have l1 := h.lt p.gw (.inr (.inl rfl))
  have l2 := h.lt p.gg (.inr (.inr (.inl rfl)))
  refine ⟨gq, cq, T, rfl, hg, hgl, ⟨?_, ?_, ?_, ?_, ?_, ⟨hT, hcm⟩, ⟨h.low.1, h.low.2.1, h.low.2.2.1, by dsimp only; omega, by dsimp only; omega⟩, ⟨h.ne.1, by dsimp only; omega, by dsimp only; omega, by dsimp only; omega, by dsimp only; omega, by dsimp only; omega⟩⟩⟩
  · exact ((h.blk.set_ 9 _).set_ 8 _).alloc _
  · exact Blk.alloc (Blk.far (Blk.far h.rw_ (Ne.symm h.ng.1) _) (Ne.symm h.ng.1) _) _
  · exact Blk.alloc (Blk.far (Blk.far h.rg (Ne.symm h.ng.2.1) _) (Ne.symm h.ng.2.1) _) _
  · have h1 := bk_made ((w4.setCell ⟨p.g, 9, none⟩ (.slice (some ⟨gq, 0, none⟩) nb cq)).setCell ⟨p.g, 8, none⟩ (.slice (some ⟨w4.heap.size, 0, none⟩) nb nb)) nb
    have hs : ((w4.setCell ⟨p.g, 9, none⟩ (.slice (some ⟨gq, 0, none⟩) nb cq)).setCell ⟨p.g, 8, none⟩ (.slice (some ⟨w4.heap.size, 0, none⟩) nb nb)).heap.size = w4.heap.size := by simp [World.setCell]
    rw [hs] at h1
    exact h1
  · exact Blk.alloc (Blk.far (Blk.far hI (by dsimp only; omega) _) (by dsimp only; omega) _) _

set_option maxRecDepth 100000 in
set_option maxHeartbeats 8000000 in
theorem brokerGives_any (base nb : Nat) (p : BrL) (most ticks : Int) (s : BrS) (w : World) (h : BrAt w base nb p most ticks s) (ho : s.ok nb) (hor : ∀ i, i ≤ nb → (gv { (if s.rounds = 0 then openR most nb s else s) with rounds := (s.rounds + 1) % ticks } i).ok nb) (hnb : 1 ≤ nb ∧ nb ≤ 8) (hm : 0 ≤ most ∧ most ≤ 1048576) (ht : 1 ≤ ticks ∧ ticks ≤ 8) (hB : base ≤ w.heap.size) :
    Calls Try.prog 21 #[.pointer (some ⟨p.g, 0, none⟩)] w (BrGives w base nb p most ticks (givesR most ticks nb s)) := by
  obtain ⟨g, gw, gg, gs0, gq0, cq0, T0⟩ := p
  dsimp only
  have c0 : w.cell? ⟨g, 0, none⟩ = some (.int .i64 nb) := h.blk.cell 0
  have c1 : w.cell? ⟨g, 1, none⟩ = some (.int .i64 most) := h.blk.cell 1
  have c3 : w.cell? ⟨g, 3, none⟩ = some (.int .i64 s.rounds) := h.blk.cell 3
  have c4 : w.cell? ⟨g, 4, none⟩ = some (.int .i64 s.reserve) := h.blk.cell 4
  have hrd := ho.rd
  have hres := ho.res
  have HX := hide h
  have HO := hide ho
  have HOR := hide hor
  obtain ⟨i0, hi, hz0, hz1, hz2⟩ := int_info
  have hmk := fun W => run_make_rowN (P := Try.prog) 43 3 i0 _ Try.underlying43 hi hz0 .i64 .i64 nb nb (Nat.le_refl _) (by rw [hz2]; omega) (by omega) W
  rw [hz1] at hmk
  have HMK := hide hmk
  have hnb2 : (nb : Int) ≤ 8 := by omega
  clear h ho hor hmk
  by_cases hz0' : s.rounds = 0
  · have HF := hide (show givesR most ticks nb s = (gv { openR most nb s with rounds := (s.rounds + 1) % ticks } nb, (gv { openR most nb s with rounds := (s.rounds + 1) % ticks } nb).given, s.reserve) by unfold givesR; simp only [if_pos hz0'])
    have hzb : (s.rounds == 0) = true := by simpa using hz0'
    simp only [if_pos hz0'] at HOR
    clear hz0'
    go_enter Try.func21, Try.ntmps21
    go_wp2_with fail
    go_loopw [5, 6] (fun v i wr => ∃ k : Nat, k ≤ nb ∧ i = .int .i64 k ∧ Hid (wr.ownsRow w.heap.size 3 1 v k ((List.replicate k most).map (.int .i64))) ∧ Below w.heap.size w wr) (fun _ i _ => nb - (intOf i).toNat)
    case atStart => exact ⟨0, Nat.zero_le _, rfl, World.ownsRow_nil _ _ _ _, Below.refl _ _⟩
    case round =>
      obtain ⟨k, hk, rfl, HOW, hb⟩ := hrel
      have HXr := hide ((unhide HX).calm hb)
      have m0 : wr.cell? ⟨g, 0, none⟩ = some (.int .i64 nb) := (unhide HXr).blk.cell 0
      have m1 : wr.cell? ⟨g, 1, none⟩ = some (.int .i64 most) := (unhide HXr).blk.cell 1
      have hbs := hb.size
      have HB := hide hb
      obtain ⟨A5, c5, rfl, hc5⟩ := own_slice (unhide HOW)
      clear c0 c1 c3 c4 hb
      by_cases hlt : k < nb
      · have hkn : (k : Int) < (nb : Int) := by omega
        have hmk8 : (k + 1) * 8 ≤ 140737488355328 := by omega
        go_wp2_with (first
          | (at_builtin; (refine wpList_append_new _ rfl (.tmp 26) (.tmp 31) _ rfl w.heap.size 3 i0 _ 1 8 Try.underlying43 hi hz0 hz1 hz2 rfl (by omega) (by omega) _ _ _ (unhide HOW) rfl _ 1 _ rfl rfl rfl (by simp [Value.oneCell']) hmk8 hbs ?_); intro g4 cap4 w4 hg4 hown4 hbel4 hgr4 hat4))
        have HO4 := hide (show w4.ownsRow w.heap.size 3 1 (.slice (some ⟨g4, 0, none⟩) (k + 1) cap4) (k + 1) ((List.replicate (k + 1) most).map (.int .i64)) by rw [List.replicate_succ', List.map_append]; simpa using hown4)
        have HB4 := hide (hbel4 _ _ (Nat.le_refl _) (unhide HB))
        clear hown4 hbel4 hgr4 hat4 hg4
        go_roundw
        case rel => exact ⟨k + 1, by omega, by go_num, HO4, unhide HB4⟩
        case measure => simp [intOf]; omega
      · obtain rfl : k = nb := by omega
        have hcap := own_caps (unhide HOW)
        have m4 : wr.cell? ⟨g, 4, none⟩ = some (.int .i64 s.reserve) := (unhide HXr).blk.cell 4
        have HSP := hide (splitRef_any A5 k c5 (List.replicate k most) s.reserve wr.heap.size wr (by simp) hcap.2.1 hcap.2.2 (by omega) (Reads.of_own (unhide HOW)) (Nat.le_refl _))
        rw [splitP_rep s.reserve most k hres hm hnb.2] at HSP
        clear hcap m1
        go_wp2_with fail
        refine (unhide HSP).mono ?_
        rintro _ w4 ⟨v4, rfl, ho4, hb4⟩
        obtain ⟨q1, q2, q3⟩ := gives_facts s.reserve (List.replicate k most) hres.1 (fun w hw => by have := List.eq_of_mem_replicate hw; omega)
        rw [List.length_replicate] at q1
        dsimp only at ho4
        rw [q1] at ho4
        have HX4 := hide ((unhide HXr).calm hb4)
        obtain ⟨gq, cq, T, hv, hgq, hgql, hX6⟩ := br_open (unhide HX4) (B4 := wr.heap.size) (fun a ha => (unhide HXr).lt a ha) (Nat.le_trans hB hbs) ho4 hnb
        subst hv
        have HB4 := hide ((unhide HB).trans (hb4.mono hbs))
        have n0 : w4.cell? ⟨g, 0, none⟩ = some (.int .i64 k) := (unhide HX4).blk.cell 0
        have n8 : w4.cell? ⟨g, 8, none⟩ = some (.slice (some ⟨gs0, 0, none⟩) k k) := (unhide HX4).blk.cell 8
        have n9 : w4.cell? ⟨g, 9, none⟩ = some (.slice (some ⟨gq0, 0, none⟩) k cq0) := (unhide HX4).blk.cell 9
        have f8 : w4.frozen? ⟨g, 8, none⟩ = false := (unhide HX4).blk.frozen 8
        have f9 : w4.frozen? ⟨g, 9, none⟩ = false := (unhide HX4).blk.frozen 9
        have hglt : g < w4.heap.size := (unhide HX4).blk.lt
        have hgs4 : w.heap.size ≤ w4.heap.size := (unhide HB4).size
        have hgq4 : w.heap.size ≤ gq := by omega
        have HX6 := hide hX6
        have hmk := unhide HMK
        clear ho4 hb4 q1 q2 q3 hgq hgql hX6
        go_upto_region 11 with fail
        obtain ⟨wc, hwc⟩ : ∃ wc, wc = ((w4.setCell ⟨g, 9, none⟩ (.slice (some ⟨gq, 0, none⟩) k cq)).setCell ⟨g, 8, none⟩ (.slice (some ⟨w4.heap.size, 0, none⟩) k k)).alloc (.cells (madeCells #[Value.int .i64 0] k) 3) := ⟨_, rfl⟩
        obtain ⟨gs, s1, hGQ, hXc, hS1, hR1, hF⟩ : ∃ gs s1, ((gs = gs0 ∨ w.heap.size ≤ gs) ∧ (gq = gq0 ∨ w.heap.size ≤ gq)) ∧ BrAt wc base k ⟨g, gw, gg, gs, gq, cq, T⟩ most ticks s1 ∧ (∀ i, i ≤ k → (gv { s1 with rounds := (s.rounds + 1) % ticks } i).ok k) ∧ s1.rounds = s.rounds ∧ givesR most ticks k s = (gv { s1 with rounds := (s.rounds + 1) % ticks } k, (gv { s1 with rounds := (s.rounds + 1) % ticks } k).given, s.reserve) :=
          ⟨w4.heap.size, openR most k s, ⟨.inr hgs4, .inr hgq4⟩, by rw [hwc]; exact unhide HX6, unhide HOR, rfl, unhide HF⟩
        have HGQ := hide hGQ
        have HXC := hide hXc
        have HS1 := hide hS1
        have HR1 := hide hR1
        have HOC := hide (show Only (BrL.has ⟨g, gw, gg, gs0, gq0, cq0, T0⟩) w wc by rw [hwc]; exact Only.alloc (Only.setCell (Only.setCell (Only.of_below (unhide HB4) (fun x h1 h2 => by omega)) (fun _ => .inl rfl) _) (fun _ => .inl rfl) _) _)
        rw [← hwc]
        obtain ⟨rep, hrep⟩ : ∃ rep : Int, rep = s.reserve := ⟨_, rfl⟩
        rw [← hrep] at hF
        rw [← hrep]
        clear HF
        have HF := hide hF
        obtain ⟨nb, rfl⟩ : ∃ nb : Nat, nb = k := ⟨_, rfl⟩
        clear hF hGQ hXc hS1 hR1 hrep hzb hwc n0 n8 n9 f8 f9 hmk hglt m0 m4
        have d2 : wc.cell? ⟨g, 2, none⟩ = some (.int .i64 ticks) := (unhide HXC).blk.cell 2
        have d3 : wc.cell? ⟨g, 3, none⟩ = some (.int .i64 s1.rounds) := (unhide HXC).blk.cell 3
        have d3f : wc.frozen? ⟨g, 3, none⟩ = false := (unhide HXC).blk.frozen 3
        have hr1 := unhide HR1
        have hr2 : 0 ≤ s1.rounds + 1 := by omega
        have htm : Int.tmod (s1.rounds + 1) ticks = (s1.rounds + 1) % ticks := Int.tmod_eq_emod_of_nonneg hr2
        have htz : (ticks == 0) = false := by simp; omega
        have hwr : IntKind.i64.wrap (s1.rounds + 1) = s1.rounds + 1 := by rw [IntKind.wrap_i64]; omega
        clear hr1
        refine wp_region_draw_full [] [0, 1, 2, 3, 4, 5, 6, 7, 8, 9, 10] [] [] 11 [12, 13] (by kernel_rfl) (by kernel_rfl) (by intro c a d v w h; cases d <;> exact h) ?_
        simp only [pickOps, List.map_cons, List.map_nil, List.getD_cons_zero, List.getD_cons_succ]
        refine wpQuiet_nil ?_
        repeat (go_big_quiet_step (fail))
        refine wpQuiet_nil (wpQuiet_nil ?_)
        rintro _ ⟨nq9, rfl⟩
        simp only [wpAl]
        go_upto_region 12 with fail
        obtain ⟨w5, hw5⟩ : ∃ w5, w5 = (wc.drewN nq9).setCell ⟨g, 3, none⟩ (.int .i64 ((s1.rounds + 1) % ticks)) := ⟨_, rfl⟩
        obtain ⟨s2, hs2⟩ : ∃ s2, s2 = { s1 with rounds := (s.rounds + 1) % ticks } := ⟨_, rfl⟩
        have HX5 := hide (show BrAt w5 base nb ⟨g, gw, gg, gs, gq, cq, T⟩ most ticks s2 by
          have h := (unhide HXC).only (D := fun _ => False) ((Only.refl _ wc).drewN nq9) (fun _ _ e => e)
          rw [hw5, hs2, ← unhide HR1]
          exact ⟨h.blk.set_ 3 _, Blk.far h.rw_ (Ne.symm h.ng.1) _, Blk.far h.rg (Ne.symm h.ng.2.1) _, Blk.far h.rs (Ne.symm h.ng.2.2.1) _, Blk.far h.rq (Ne.symm h.ng.2.2.2) _, h.cap, h.low, h.ne⟩)
        have HO5 := hide (show Only (BrL.has ⟨g, gw, gg, gs0, gq0, cq0, T0⟩) w w5 by rw [hw5]; exact Only.setCell ((unhide HOC).drewN _) (fun _ => .inl rfl) _)
        have HS2 := hide (show ∀ i, i ≤ nb → (gv s2 i).ok nb by rw [hs2]; exact unhide HS1)
        rw [← hs2] at HF
        rw [← hw5]
        clear hw5 hs2 d2 d3 d3f hr2 htm htz hwr
        go_wp2_with fail
        go_loopw [7] (fun i wr => ∃ k : Nat, k ≤ nb ∧ i = .int .i64 k ∧ Hid (BrAt wr base nb ⟨g, gw, gg, gs, gq, cq, T⟩ most ticks (gv s2 k)) ∧ Hid (Only (BrL.has ⟨g, gw, gg, gs, gq, cq, T⟩) w5 wr)) (fun i _ => nb - (intOf i).toNat)
        case atStart => exact ⟨0, Nat.zero_le _, rfl, HX5, Only.refl _ _⟩
        case round =>
          obtain ⟨k, hk, rfl, HXR, HOR5⟩ := hrel
          obtain ⟨wo, rfl⟩ : ∃ wo : World, wo = wr := ⟨_, rfl⟩
          have m0 : wo.cell? ⟨g, 0, none⟩ = some (.int .i64 nb) := (unhide HXR).blk.cell 0
          by_cases hlt : k < nb
          · have ht := unhide HS2 k (by omega)
            have ht2 := unhide HS2 (k + 1) (by omega)
            obtain ⟨t, htt⟩ : ∃ t, t = gv s2 k := ⟨_, rfl⟩
            have hnx : gv s2 (k + 1) = gvAt t k := by rw [htt]; rfl
            rw [← htt] at ht HXR
            rw [hnx] at ht2
            have HT := hide ht
            have HT2 := hide ht2
            have HNX := hide hnx
            have hkn : (k : Int) < (nb : Int) := by omega
            clear ht ht2 hnx htt
            go_wp2_with fail
            go_loopw [8] (fun n8 W => ∃ st : BrS, Hid (BrAt W base nb ⟨g, gw, gg, gs, gq, cq, T⟩ most ticks st) ∧ Hid (Only (BrL.has ⟨g, gw, gg, gs, gq, cq, T⟩) w5 W) ∧ Hid (gvAt st k = gvAt t k ∧ st.ok nb) ∧ W.cell? ⟨gg, k, none⟩ = some (.int .i64 (st.given.getD k 0)) ∧ st.wants = t.wants) (fun _ W => (t.wants.getD k 0 - intOf ((W.cell? ⟨gg, k, none⟩).getD undef)).toNat)
            case atStart => exact ⟨t, HXR, HOR5, ⟨rfl, unhide HT⟩, IRow.cell (unhide HXR).rg (get_of_lt (unhide HT).lg hlt), rfl⟩
            case round =>
              obtain ⟨st, HXI, HOI, HSI, a6, hwst⟩ := hrel
              have hX := unhide HXI
              have ht := (unhide HSI).2
              have hx := ht.w _ (List.mem_of_getElem? (get_of_lt ht.lw hlt))
              have hy := ht.g k hlt
              have hz := ht.q k hlt
              have hrr := ht.res
              have hrr2 := (unhide HT2).res
              have hgv : (gvAt t k).reserve = (gvAt st k).reserve := by rw [(unhide HSI).1]
              have hgr : (gvAt st k).reserve = st.reserve - st.due k := rfl
              have a5 : wr.cell? ⟨gw, k, none⟩ = some (.int .i64 (st.wants.getD k 0)) := IRow.cell hX.rw_ (get_of_lt ht.lw hlt)
              have a7 : wr.cell? ⟨gs, k, none⟩ = some (.int .i64 (st.since.getD k 0)) := IRow.cell hX.rs (get_of_lt ht.ls hlt)
              have a8 : wr.cell? ⟨gq, k, none⟩ = some (.int .i64 (st.quotas.getD k 0)) := IRow.cell hX.rq (get_of_lt ht.lq hlt)
              have m4 : wr.cell? ⟨g, 4, none⟩ = some (.int .i64 st.reserve) := hX.blk.cell 4
              have m6 : wr.cell? ⟨g, 6, none⟩ = some (.slice (some ⟨gw, 0, none⟩) nb nb) := hX.blk.cell 6
              have m7 : wr.cell? ⟨g, 7, none⟩ = some (.slice (some ⟨gg, 0, none⟩) nb nb) := hX.blk.cell 7
              have m8 : wr.cell? ⟨g, 8, none⟩ = some (.slice (some ⟨gs, 0, none⟩) nb nb) := hX.blk.cell 8
              have m9 : wr.cell? ⟨g, 9, none⟩ = some (.slice (some ⟨gq, 0, none⟩) nb cq) := hX.blk.cell 9
              have f4 : wr.frozen? ⟨g, 4, none⟩ = false := hX.blk.frozen 4
              have f6 : wr.frozen? ⟨gg, k, none⟩ = false := IRow.frozen hX.rg k
              have f7 : wr.frozen? ⟨gs, k, none⟩ = false := IRow.frozen hX.rs k
              have n1 : ¬ g = gg := hX.ng.2.1
              have n2 : ¬ g = gs := hX.ng.2.2.1
              have n3 : ¬ gg = gs := hX.ne.2.2.2.1
              have n4 : ¬ gg = g := fun e => n1 e.symm
              have n5 : ¬ gs = g := fun e => n2 e.symm
              have n6 : ¬ gs = gg := fun e => n3 e.symm
              have hdue : st.due k = if st.given.getD k 0 < st.wants.getD k 0 ∧ st.since.getD k 0 < st.quotas.getD k 0 then min (st.wants.getD k 0 - st.given.getD k 0) (st.quotas.getD k 0 - st.since.getD k 0) else 0 := rfl
              have HZR := hide (fun hd : st.due k = 0 => show gvAt t k = st from by rw [← (unhide HSI).1]; exact gvAt_zero ht hlt hd)
              have HST := hide (fun (n1 : Nat) x y z hx hy hz => br_step (i := k) (hX.only (D := fun _ => False) ((Only.refl _ wr).drewN n1) (fun _ _ e => e)) (by rw [ht.lg]; exact hlt) (by rw [ht.ls]; exact hlt) x y z hx hy hz)
              have HNEXT := hide (show gvAt (gvAt st k) k = gvAt t k ∧ (gvAt st k).ok nb from by
                have h1 : (gvAt st k).ok nb := by rw [(unhide HSI).1]; exact unhide HT2
                exact ⟨by rw [gvAt_zero h1 hlt (due_again ht hlt)]; exact (unhide HSI).1, h1⟩)
              have HGG := hide (show (gvAt st k).given.getD k 0 = st.given.getD k 0 + st.due k from by simp only [gvAt]; rw [getD_set (by rw [ht.lg]; exact hlt), if_pos rfl])
              have HWS := hide hwst
              rw [← hwst]
              have HLG := hide (show ∀ W', IRow W' gg (gvAt st k).given [] → W'.cell? ⟨gg, k, none⟩ = some (.int .i64 ((gvAt st k).given.getD k 0)) from fun W' h => IRow.cell h (get_of_lt (unhide HNEXT).2.lg hlt))
              obtain ⟨x, hxx⟩ : ∃ x, x = st.wants.getD k 0 := ⟨_, rfl⟩
              obtain ⟨y, hyy⟩ : ∃ y, y = st.given.getD k 0 := ⟨_, rfl⟩
              obtain ⟨z, hzz⟩ : ∃ z, z = st.since.getD k 0 := ⟨_, rfl⟩
              obtain ⟨u, huu⟩ : ∃ u, u = st.quotas.getD k 0 := ⟨_, rfl⟩
              obtain ⟨n, hnn⟩ : ∃ n, n = st.due k := ⟨_, rfl⟩
              obtain ⟨rs, hrs⟩ : ∃ rs, rs = st.reserve := ⟨_, rfl⟩
              rw [← hxx] at a5 hx hdue hy
              rw [← hyy] at a6 hy hdue HST HGG
              rw [← hzz] at a7 hz hdue HST
              rw [← huu] at a8 hz hdue
              rw [← hrs] at m4 hrr HST hgr
              rw [← hnn] at hdue HST HZR HGG hgr
              have hbb : rs - n ≤ 1048576 ∧ 0 ≤ rs - n := by omega
              clear hX ht hwst hzz huu hnn hrs hgv hgr hrr2
              by_cases c1 : y < x
              · by_cases c2 : z < u
                · rw [if_pos ⟨c1, c2⟩] at hdue
                  have hfin : ∀ m1 : Nat, ∀ y' z' r', y' = y + n → z' = z + n → r' = rs - n → BrAt ((((wr.drewN m1).setCell ⟨gg, k, none⟩ (.int .i64 y')).setCell ⟨gs, k, none⟩ (.int .i64 z')).setCell ⟨g, 4, none⟩ (.int .i64 r')) base nb ⟨g, gw, gg, gs, gq, cq, T⟩ most ticks (gvAt st k) ∧ Only (BrL.has ⟨g, gw, gg, gs, gq, cq, T⟩) w5 ((((wr.drewN m1).setCell ⟨gg, k, none⟩ (.int .i64 y')).setCell ⟨gs, k, none⟩ (.int .i64 z')).setCell ⟨g, 4, none⟩ (.int .i64 r')) := fun m1 y' z' r' h1 h2 h3 =>
                    ⟨unhide HST m1 y' z' r' h1 h2 h3, Only.setCell (Only.setCell (Only.setCell ((unhide HOI).drewN m1) (fun _ => .inr (.inr (.inl rfl))) _) (fun _ => .inr (.inr (.inr (.inl rfl)))) _) (fun _ => .inl rfl) _⟩
                  have HFIN := hide hfin
                  have hnp : 0 < n := by omega
                  clear hfin
                  rcases (show (x - y ≤ u - z ∧ n = x - y) ∨ (u - z < x - y ∧ n = u - z) by omega) with ⟨hmin, hn2⟩ | ⟨hmin, hn2⟩
                  all_goals
                    subst hn2
                    have c1b : decide (y < x) = true := decide_eq_true c1
                    have c2b : decide (z < u) = true := decide_eq_true c2
                    have HYY := hide hyy
                    have HXX := hide hxx
                    clear hdue hyy hxx
                    go_wp2_with fail
                    go_quiet (fail)
                    obtain ⟨nb1, rfl⟩ : ∃ m, m = nq := ⟨_, rfl⟩
                    go_wp2_with fail
                    refine wp_region_draw_tail 30 (by kernel_rfl) (by kernel_rfl) ?_
                    simp only [List.take_succ_cons, List.take_zero, List.drop_succ_cons, List.drop_zero]
                    repeat (go_big_quiet_step (fail))
                    refine wpQuiet_nil ?_
                    rintro _ ⟨nq2, rfl⟩
                    go_wp2_with fail
                    go_roundw
                    case rel => exact ⟨gvAt st k, hide (unhide HFIN (nb1 + nq2) _ _ _ rfl rfl rfl).1, hide (unhide HFIN (nb1 + nq2) _ _ _ rfl rfl rfl).2, hide (unhide HNEXT), unhide HLG _ (unhide HFIN (nb1 + nq2) _ _ _ rfl rfl rfl).1.rg, rfl⟩
                    case measure =>
                      rw [unhide HLG _ (unhide HFIN (nb1 + nq2) _ _ _ rfl rfl rfl).1.rg, a6, unhide HGG, ← unhide HXX]
                      simp [intOf]
                      omega
                · have hn0 : n = 0 := by rw [hdue, if_neg (fun h => c2 h.2)]
                  have c1b : decide (y < x) = true := decide_eq_true c1
                  have c2b : decide (z < u) = false := decide_eq_false c2
                  have HZ2 := hide (show st = gv s2 (k + 1) by rw [unhide HNX]; exact (unhide HZR hn0).symm)
                  clear hn0 hdue hyy hxx
                  go_wp2_with fail
                  go_quiet (fail)
                  go_wp2_with fail
                  go_roundw
                  case rel => exact ⟨k + 1, by omega, by go_num, hide (by rw [← unhide HZ2]; exact (unhide HXI).only (D := fun _ => False) ((Only.refl _ wr).drewN nq) (fun _ _ e => e)), hide ((unhide HOI).drewN nq)⟩
                  case measure => simp [intOf]; omega
              · have hn0 : n = 0 := by rw [hdue, if_neg (fun h => c1 h.1)]
                have c1b : decide (y < x) = false := decide_eq_false c1
                have HZ2 := hide (show st = gv s2 (k + 1) by rw [unhide HNX]; exact (unhide HZR hn0).symm)
                clear hn0 hdue hyy hxx
                go_wp2_with fail
                go_quiet (fail)
                go_wp2_with fail
                go_roundw
                case rel => exact ⟨k + 1, by omega, by go_num, hide (by rw [← unhide HZ2]; exact (unhide HXI).only (D := fun _ => False) ((Only.refl _ wr).drewN nq) (fun _ _ e => e)), hide ((unhide HOI).drewN nq)⟩
                case measure => simp [intOf]; omega
          · obtain rfl : k = nb := by omega
            have ht := unhide HS2 k (Nat.le_refl _)
            have hX := unhide HXR
            have m7 : wo.cell? ⟨g, 7, none⟩ = some (.slice (some ⟨gg, 0, none⟩) k k) := hX.blk.cell 7
            have HOA := hide (show Only (BrL.has ⟨g, gw, gg, gs0, gq0, cq0, T0⟩) w wo from (unhide HO5).trans (unhide HOR5) (fun a ha h => by
              rcases h with h | h | h | h | h
              · exact .inl h
              · exact .inr (.inl h)
              · exact .inr (.inr (.inl h))
              · rcases (unhide HGQ).1 with h2 | h2
                · exact .inr (.inr (.inr (.inl (h.trans h2))))
                · dsimp only at h; omega
              · rcases (unhide HGQ).2 with h2 | h2
                · exact .inr (.inr (.inr (.inr (h.trans h2))))
                · dsimp only at h; omega))
            have HRD := hide (show Reads wo wo.heap.size 1 (some ⟨gg, 0, none⟩) k ((gv s2 k).given.map (.int .i64)) from IRow.reads hX.rg ht.lg)
            have h63 : 0 + k ≤ maxLen := by unfold maxLen; omega
            have hby : (0 + k) * 8 ≤ 140737488355328 := by omega
            clear ht hX
            go_wp2_with (first
              | (at_builtin; (refine wpList_append_any _ rfl (.const (.slice none 0 0)) (.tmp 168) _ rfl wo.heap.size 3 i0 _ 1 8 Try.underlying43 hi hz0 hz1 hz2 rfl (by omega) (.slice none 0 0) 0 _ rfl (World.ownsRow_nil _ _ _ _) wo.heap.size (some ⟨gg, 0, none⟩) k k ((gv s2 k).given.map (.int .i64)) rfl (unhide HRD) (ints_one .i64 (gv s2 k).given) h63 hby (Nat.le_refl _) ?_); intro v6 w6 hown6 hg6 _; have hb6 : Below wo.heap.size wo w6 := ⟨hg6.os, hg6.tape, hg6.output, hg6.size, fun k hk => hg6.block k hk (by simp [Value.ownBlock])⟩; have HO6 := hide (show w6.ownsRow wo.heap.size 3 1 v6 k ((gv s2 k).given.map (.int .i64)) by simpa using hown6); have HB6 := hide hb6; clear hown6 hg6 hb6))
            obtain ⟨A9, c9, rfl, _⟩ := own_slice (unhide HO6)
            go_ret2
            rw [unhide HF]
            refine ⟨⟨g, gw, gg, gs, gq, cq, T⟩, A9, c9, rfl, own_mono (unhide HO6) (unhide HOA).size, (unhide HXR).calm (unhide HB6), rfl, fun a h => ?_, (unhide HOA).calm (unhide HB6), fun q hq hh => by have h1 := ((unhide HO6).lt q hq).1; have h2 := (unhide HXR).lt q hh; omega⟩
            rcases h with h | h | h | h | h
            · exact .inl (.inl h)
            · exact .inl (.inr (.inl h))
            · exact .inl (.inr (.inr (.inl h)))
            · rcases (unhide HGQ).1 with h2 | h2
              · exact .inl (.inr (.inr (.inr (.inl (h.trans h2)))))
              · exact .inr (by dsimp only at h; omega)
            · rcases (unhide HGQ).2 with h2 | h2
              · exact .inl (.inr (.inr (.inr (.inr (h.trans h2)))))
              · exact .inr (by dsimp only at h; omega)
  · have HF := hide (show givesR most ticks nb s = (gv { s with rounds := (s.rounds + 1) % ticks } nb, (gv { s with rounds := (s.rounds + 1) % ticks } nb).given, -1) by unfold givesR; simp only [if_neg hz0'])
    have hzb : (s.rounds == 0) = false := by simpa using hz0'
    simp only [if_neg hz0'] at HOR
    go_enter Try.func21, Try.ntmps21
    go_upto_region 11 with fail
    obtain ⟨wc, hwc⟩ : ∃ wc, wc = w := ⟨_, rfl⟩
    obtain ⟨gs, gq, cq, T, s1, hGQ, hXc, hS1, hR1, hF⟩ : ∃ gs gq cq T s1, ((gs = gs0 ∨ w.heap.size ≤ gs) ∧ (gq = gq0 ∨ w.heap.size ≤ gq)) ∧ BrAt wc base nb ⟨g, gw, gg, gs, gq, cq, T⟩ most ticks s1 ∧ (∀ i, i ≤ nb → (gv { s1 with rounds := (s.rounds + 1) % ticks } i).ok nb) ∧ s1.rounds = s.rounds ∧ givesR most ticks nb s = (gv { s1 with rounds := (s.rounds + 1) % ticks } nb, (gv { s1 with rounds := (s.rounds + 1) % ticks } nb).given, -1) :=
      ⟨gs0, gq0, cq0, T0, s, ⟨.inl rfl, .inl rfl⟩, by rw [hwc]; exact unhide HX, unhide HOR, rfl, unhide HF⟩
    have HGQ := hide hGQ
    have HXC := hide hXc
    have HS1 := hide hS1
    have HR1 := hide hR1
    have HOC := hide (show Only (BrL.has ⟨g, gw, gg, gs0, gq0, cq0, T0⟩) w wc by rw [hwc]; exact Only.refl _ _)
    obtain ⟨rep, hrep⟩ : ∃ rep : Int, rep = -1 := ⟨_, rfl⟩
    rw [← hrep] at hF
    rw [← hrep]
    clear HF
    have HF := hide hF
    have hcw : Hid (wc = w) := hwc
    clear hF hGQ hXc hS1 hR1 hrep c0 c1 c3 c4 hzb hz0'
    rw [← hwc]
    clear hwc
    have d2 : wc.cell? ⟨g, 2, none⟩ = some (.int .i64 ticks) := (unhide HXC).blk.cell 2
    have d3 : wc.cell? ⟨g, 3, none⟩ = some (.int .i64 s1.rounds) := (unhide HXC).blk.cell 3
    have d3f : wc.frozen? ⟨g, 3, none⟩ = false := (unhide HXC).blk.frozen 3
    have hr1 := unhide HR1
    have hr2 : 0 ≤ s1.rounds + 1 := by omega
    have htm : Int.tmod (s1.rounds + 1) ticks = (s1.rounds + 1) % ticks := Int.tmod_eq_emod_of_nonneg hr2
    have htz : (ticks == 0) = false := by simp; omega
    have hwr : IntKind.i64.wrap (s1.rounds + 1) = s1.rounds + 1 := by rw [IntKind.wrap_i64]; omega
    clear hr1
    refine wp_region_draw_full [] [0, 1, 2, 3, 4, 5, 6, 7, 8, 9, 10] [] [] 11 [12, 13] (by kernel_rfl) (by kernel_rfl) (by intro c a d v w h; cases d <;> exact h) ?_
    simp only [pickOps, List.map_cons, List.map_nil, List.getD_cons_zero, List.getD_cons_succ]
    refine wpQuiet_nil ?_
    repeat (go_big_quiet_step (fail))
    refine wpQuiet_nil (wpQuiet_nil ?_)
    rintro _ ⟨nq9, rfl⟩
    simp only [wpAl]
    go_upto_region 12 with fail
    obtain ⟨w5, hw5⟩ : ∃ w5, w5 = (wc.drewN nq9).setCell ⟨g, 3, none⟩ (.int .i64 ((s1.rounds + 1) % ticks)) := ⟨_, rfl⟩
    obtain ⟨s2, hs2⟩ : ∃ s2, s2 = { s1 with rounds := (s.rounds + 1) % ticks } := ⟨_, rfl⟩
    have HX5 := hide (show BrAt w5 base nb ⟨g, gw, gg, gs, gq, cq, T⟩ most ticks s2 by
      have h := (unhide HXC).only (D := fun _ => False) ((Only.refl _ wc).drewN nq9) (fun _ _ e => e)
      rw [hw5, hs2, ← unhide HR1]
      exact ⟨h.blk.set_ 3 _, Blk.far h.rw_ (Ne.symm h.ng.1) _, Blk.far h.rg (Ne.symm h.ng.2.1) _, Blk.far h.rs (Ne.symm h.ng.2.2.1) _, Blk.far h.rq (Ne.symm h.ng.2.2.2) _, h.cap, h.low, h.ne⟩)
    have HO5 := hide (show Only (BrL.has ⟨g, gw, gg, gs0, gq0, cq0, T0⟩) w w5 by rw [hw5]; exact Only.setCell ((unhide HOC).drewN _) (fun _ => .inl rfl) _)
    have HS2 := hide (show ∀ i, i ≤ nb → (gv s2 i).ok nb by rw [hs2]; exact unhide HS1)
    rw [← hs2] at HF
    rw [← hw5]
    clear hw5 hs2 d2 d3 d3f hr2 htm htz hwr
    go_wp2_with fail
    go_loopw [7] (fun i wr => ∃ k : Nat, k ≤ nb ∧ i = .int .i64 k ∧ Hid (BrAt wr base nb ⟨g, gw, gg, gs, gq, cq, T⟩ most ticks (gv s2 k)) ∧ Hid (Only (BrL.has ⟨g, gw, gg, gs, gq, cq, T⟩) w5 wr)) (fun i _ => nb - (intOf i).toNat)
    case atStart => exact ⟨0, Nat.zero_le _, rfl, HX5, Only.refl _ _⟩
    case round =>
      obtain ⟨k, hk, rfl, HXR, HOR5⟩ := hrel
      obtain ⟨wo, rfl⟩ : ∃ wo : World, wo = wr := ⟨_, rfl⟩
      have m0 : wo.cell? ⟨g, 0, none⟩ = some (.int .i64 nb) := (unhide HXR).blk.cell 0
      by_cases hlt : k < nb
      · have ht := unhide HS2 k (by omega)
        have ht2 := unhide HS2 (k + 1) (by omega)
        obtain ⟨t, htt⟩ : ∃ t, t = gv s2 k := ⟨_, rfl⟩
        have hnx : gv s2 (k + 1) = gvAt t k := by rw [htt]; rfl
        rw [← htt] at ht HXR
        rw [hnx] at ht2
        have HT := hide ht
        have HT2 := hide ht2
        have HNX := hide hnx
        have hkn : (k : Int) < (nb : Int) := by omega
        clear ht ht2 hnx htt
        go_wp2_with fail
        go_loopw [8] (fun n8 W => ∃ st : BrS, Hid (BrAt W base nb ⟨g, gw, gg, gs, gq, cq, T⟩ most ticks st) ∧ Hid (Only (BrL.has ⟨g, gw, gg, gs, gq, cq, T⟩) w5 W) ∧ Hid (gvAt st k = gvAt t k ∧ st.ok nb) ∧ W.cell? ⟨gg, k, none⟩ = some (.int .i64 (st.given.getD k 0)) ∧ st.wants = t.wants) (fun _ W => (t.wants.getD k 0 - intOf ((W.cell? ⟨gg, k, none⟩).getD undef)).toNat)
        case atStart => exact ⟨t, HXR, HOR5, ⟨rfl, unhide HT⟩, IRow.cell (unhide HXR).rg (get_of_lt (unhide HT).lg hlt), rfl⟩
        case round =>
          obtain ⟨st, HXI, HOI, HSI, a6, hwst⟩ := hrel
          have hX := unhide HXI
          have ht := (unhide HSI).2
          have hx := ht.w _ (List.mem_of_getElem? (get_of_lt ht.lw hlt))
          have hy := ht.g k hlt
          have hz := ht.q k hlt
          have hrr := ht.res
          have hrr2 := (unhide HT2).res
          have hgv : (gvAt t k).reserve = (gvAt st k).reserve := by rw [(unhide HSI).1]
          have hgr : (gvAt st k).reserve = st.reserve - st.due k := rfl
          have a5 : wr.cell? ⟨gw, k, none⟩ = some (.int .i64 (st.wants.getD k 0)) := IRow.cell hX.rw_ (get_of_lt ht.lw hlt)
          have a7 : wr.cell? ⟨gs, k, none⟩ = some (.int .i64 (st.since.getD k 0)) := IRow.cell hX.rs (get_of_lt ht.ls hlt)
          have a8 : wr.cell? ⟨gq, k, none⟩ = some (.int .i64 (st.quotas.getD k 0)) := IRow.cell hX.rq (get_of_lt ht.lq hlt)
          have m4 : wr.cell? ⟨g, 4, none⟩ = some (.int .i64 st.reserve) := hX.blk.cell 4
          have m6 : wr.cell? ⟨g, 6, none⟩ = some (.slice (some ⟨gw, 0, none⟩) nb nb) := hX.blk.cell 6
          have m7 : wr.cell? ⟨g, 7, none⟩ = some (.slice (some ⟨gg, 0, none⟩) nb nb) := hX.blk.cell 7
          have m8 : wr.cell? ⟨g, 8, none⟩ = some (.slice (some ⟨gs, 0, none⟩) nb nb) := hX.blk.cell 8
          have m9 : wr.cell? ⟨g, 9, none⟩ = some (.slice (some ⟨gq, 0, none⟩) nb cq) := hX.blk.cell 9
          have f4 : wr.frozen? ⟨g, 4, none⟩ = false := hX.blk.frozen 4
          have f6 : wr.frozen? ⟨gg, k, none⟩ = false := IRow.frozen hX.rg k
          have f7 : wr.frozen? ⟨gs, k, none⟩ = false := IRow.frozen hX.rs k
          have n1 : ¬ g = gg := hX.ng.2.1
          have n2 : ¬ g = gs := hX.ng.2.2.1
          have n3 : ¬ gg = gs := hX.ne.2.2.2.1
          have n4 : ¬ gg = g := fun e => n1 e.symm
          have n5 : ¬ gs = g := fun e => n2 e.symm
          have n6 : ¬ gs = gg := fun e => n3 e.symm
          have hdue : st.due k = if st.given.getD k 0 < st.wants.getD k 0 ∧ st.since.getD k 0 < st.quotas.getD k 0 then min (st.wants.getD k 0 - st.given.getD k 0) (st.quotas.getD k 0 - st.since.getD k 0) else 0 := rfl
          have HZR := hide (fun hd : st.due k = 0 => show gvAt t k = st from by rw [← (unhide HSI).1]; exact gvAt_zero ht hlt hd)
          have HST := hide (fun (n1 : Nat) x y z hx hy hz => br_step (i := k) (hX.only (D := fun _ => False) ((Only.refl _ wr).drewN n1) (fun _ _ e => e)) (by rw [ht.lg]; exact hlt) (by rw [ht.ls]; exact hlt) x y z hx hy hz)
          have HNEXT := hide (show gvAt (gvAt st k) k = gvAt t k ∧ (gvAt st k).ok nb from by
            have h1 : (gvAt st k).ok nb := by rw [(unhide HSI).1]; exact unhide HT2
            exact ⟨by rw [gvAt_zero h1 hlt (due_again ht hlt)]; exact (unhide HSI).1, h1⟩)
          have HGG := hide (show (gvAt st k).given.getD k 0 = st.given.getD k 0 + st.due k from by simp only [gvAt]; rw [getD_set (by rw [ht.lg]; exact hlt), if_pos rfl])
          have HWS := hide hwst
          rw [← hwst]
          have HLG := hide (show ∀ W', IRow W' gg (gvAt st k).given [] → W'.cell? ⟨gg, k, none⟩ = some (.int .i64 ((gvAt st k).given.getD k 0)) from fun W' h => IRow.cell h (get_of_lt (unhide HNEXT).2.lg hlt))
          obtain ⟨x, hxx⟩ : ∃ x, x = st.wants.getD k 0 := ⟨_, rfl⟩
          obtain ⟨y, hyy⟩ : ∃ y, y = st.given.getD k 0 := ⟨_, rfl⟩
          obtain ⟨z, hzz⟩ : ∃ z, z = st.since.getD k 0 := ⟨_, rfl⟩
          obtain ⟨u, huu⟩ : ∃ u, u = st.quotas.getD k 0 := ⟨_, rfl⟩
          obtain ⟨n, hnn⟩ : ∃ n, n = st.due k := ⟨_, rfl⟩
          obtain ⟨rs, hrs⟩ : ∃ rs, rs = st.reserve := ⟨_, rfl⟩
          rw [← hxx] at a5 hx hdue hy
          rw [← hyy] at a6 hy hdue HST HGG
          rw [← hzz] at a7 hz hdue HST
          rw [← huu] at a8 hz hdue
          rw [← hrs] at m4 hrr HST hgr
          rw [← hnn] at hdue HST HZR HGG hgr
          have hbb : rs - n ≤ 1048576 ∧ 0 ≤ rs - n := by omega
          clear hX ht hwst hzz huu hnn hrs hgv hgr hrr2
          by_cases c1 : y < x
          · by_cases c2 : z < u
            · rw [if_pos ⟨c1, c2⟩] at hdue
              have hfin : ∀ m1 : Nat, ∀ y' z' r', y' = y + n → z' = z + n → r' = rs - n → BrAt ((((wr.drewN m1).setCell ⟨gg, k, none⟩ (.int .i64 y')).setCell ⟨gs, k, none⟩ (.int .i64 z')).setCell ⟨g, 4, none⟩ (.int .i64 r')) base nb ⟨g, gw, gg, gs, gq, cq, T⟩ most ticks (gvAt st k) ∧ Only (BrL.has ⟨g, gw, gg, gs, gq, cq, T⟩) w5 ((((wr.drewN m1).setCell ⟨gg, k, none⟩ (.int .i64 y')).setCell ⟨gs, k, none⟩ (.int .i64 z')).setCell ⟨g, 4, none⟩ (.int .i64 r')) := fun m1 y' z' r' h1 h2 h3 =>
                ⟨unhide HST m1 y' z' r' h1 h2 h3, Only.setCell (Only.setCell (Only.setCell ((unhide HOI).drewN m1) (fun _ => .inr (.inr (.inl rfl))) _) (fun _ => .inr (.inr (.inr (.inl rfl)))) _) (fun _ => .inl rfl) _⟩
              have HFIN := hide hfin
              have hnp : 0 < n := by omega
              clear hfin
              rcases (show (x - y ≤ u - z ∧ n = x - y) ∨ (u - z < x - y ∧ n = u - z) by omega) with ⟨hmin, hn2⟩ | ⟨hmin, hn2⟩
              all_goals
                subst hn2
                have c1b : decide (y < x) = true := decide_eq_true c1
                have c2b : decide (z < u) = true := decide_eq_true c2
                have HYY := hide hyy
                have HXX := hide hxx
                clear hdue hyy hxx
                go_wp2_with fail
                go_quiet (fail)
                obtain ⟨nb1, rfl⟩ : ∃ m, m = nq := ⟨_, rfl⟩
                go_wp2_with fail
                refine wp_region_draw_tail 30 (by kernel_rfl) (by kernel_rfl) ?_
                simp only [List.take_succ_cons, List.take_zero, List.drop_succ_cons, List.drop_zero]
                repeat (go_big_quiet_step (fail))
                refine wpQuiet_nil ?_
                rintro _ ⟨nq2, rfl⟩
                go_wp2_with fail
                go_roundw
                case rel => exact ⟨gvAt st k, hide (unhide HFIN (nb1 + nq2) _ _ _ rfl rfl rfl).1, hide (unhide HFIN (nb1 + nq2) _ _ _ rfl rfl rfl).2, hide (unhide HNEXT), unhide HLG _ (unhide HFIN (nb1 + nq2) _ _ _ rfl rfl rfl).1.rg, rfl⟩
                case measure =>
                  rw [unhide HLG _ (unhide HFIN (nb1 + nq2) _ _ _ rfl rfl rfl).1.rg, a6, unhide HGG, ← unhide HXX]
                  simp [intOf]
                  omega
            · have hn0 : n = 0 := by rw [hdue, if_neg (fun h => c2 h.2)]
              have c1b : decide (y < x) = true := decide_eq_true c1
              have c2b : decide (z < u) = false := decide_eq_false c2
              have HZ2 := hide (show st = gv s2 (k + 1) by rw [unhide HNX]; exact (unhide HZR hn0).symm)
              clear hn0 hdue hyy hxx
              go_wp2_with fail
              go_quiet (fail)
              go_wp2_with fail
              go_roundw
              case rel => exact ⟨k + 1, by omega, by go_num, hide (by rw [← unhide HZ2]; exact (unhide HXI).only (D := fun _ => False) ((Only.refl _ wr).drewN nq) (fun _ _ e => e)), hide ((unhide HOI).drewN nq)⟩
              case measure => simp [intOf]; omega
          · have hn0 : n = 0 := by rw [hdue, if_neg (fun h => c1 h.1)]
            have c1b : decide (y < x) = false := decide_eq_false c1
            have HZ2 := hide (show st = gv s2 (k + 1) by rw [unhide HNX]; exact (unhide HZR hn0).symm)
            clear hn0 hdue hyy hxx
            go_wp2_with fail
            go_quiet (fail)
            go_wp2_with fail
            go_roundw
            case rel => exact ⟨k + 1, by omega, by go_num, hide (by rw [← unhide HZ2]; exact (unhide HXI).only (D := fun _ => False) ((Only.refl _ wr).drewN nq) (fun _ _ e => e)), hide ((unhide HOI).drewN nq)⟩
            case measure => simp [intOf]; omega
      · obtain rfl : k = nb := by omega
        have ht := unhide HS2 k (Nat.le_refl _)
        have hX := unhide HXR
        have m7 : wo.cell? ⟨g, 7, none⟩ = some (.slice (some ⟨gg, 0, none⟩) k k) := hX.blk.cell 7
        have HOA := hide (show Only (BrL.has ⟨g, gw, gg, gs0, gq0, cq0, T0⟩) w wo from (unhide HO5).trans (unhide HOR5) (fun a ha h => by
          rcases h with h | h | h | h | h
          · exact .inl h
          · exact .inr (.inl h)
          · exact .inr (.inr (.inl h))
          · rcases (unhide HGQ).1 with h2 | h2
            · exact .inr (.inr (.inr (.inl (h.trans h2))))
            · dsimp only at h; omega
          · rcases (unhide HGQ).2 with h2 | h2
            · exact .inr (.inr (.inr (.inr (h.trans h2))))
            · dsimp only at h; omega))
        have HRD := hide (show Reads wo wo.heap.size 1 (some ⟨gg, 0, none⟩) k ((gv s2 k).given.map (.int .i64)) from IRow.reads hX.rg ht.lg)
        have h63 : 0 + k ≤ maxLen := by unfold maxLen; omega
        have hby : (0 + k) * 8 ≤ 140737488355328 := by omega
        clear ht hX
        go_wp2_with (first
          | (at_builtin; (refine wpList_append_any _ rfl (.const (.slice none 0 0)) (.tmp 168) _ rfl wo.heap.size 3 i0 _ 1 8 Try.underlying43 hi hz0 hz1 hz2 rfl (by omega) (.slice none 0 0) 0 _ rfl (World.ownsRow_nil _ _ _ _) wo.heap.size (some ⟨gg, 0, none⟩) k k ((gv s2 k).given.map (.int .i64)) rfl (unhide HRD) (ints_one .i64 (gv s2 k).given) h63 hby (Nat.le_refl _) ?_); intro v6 w6 hown6 hg6 _; have hb6 : Below wo.heap.size wo w6 := ⟨hg6.os, hg6.tape, hg6.output, hg6.size, fun k hk => hg6.block k hk (by simp [Value.ownBlock])⟩; have HO6 := hide (show w6.ownsRow wo.heap.size 3 1 v6 k ((gv s2 k).given.map (.int .i64)) by simpa using hown6); have HB6 := hide hb6; clear hown6 hg6 hb6))
        obtain ⟨A9, c9, rfl, _⟩ := own_slice (unhide HO6)
        go_ret2
        rw [unhide HF]
        refine ⟨⟨g, gw, gg, gs, gq, cq, T⟩, A9, c9, rfl, own_mono (unhide HO6) (unhide HOA).size, (unhide HXR).calm (unhide HB6), rfl, fun a h => ?_, (unhide HOA).calm (unhide HB6), fun q hq hh => by have h1 := ((unhide HO6).lt q hq).1; have h2 := (unhide HXR).lt q hh; omega⟩
        rcases h with h | h | h | h | h
        · exact .inl (.inl h)
        · exact .inl (.inr (.inl h))
        · exact .inl (.inr (.inr (.inl h)))
        · rcases (unhide HGQ).1 with h2 | h2
          · exact .inl (.inr (.inr (.inr (.inl (h.trans h2)))))
          · exact .inr (by dsimp only at h; omega)
        · rcases (unhide HGQ).2 with h2 | h2
          · exact .inl (.inr (.inr (.inr (.inr (h.trans h2)))))
          · exact .inr (by dsimp only at h; omega)
end Go.Proofs.Ytiljallignlbgaa
