/- book.Book: how it lies in memory; Stock, Want. Conditions: none beyond what each theorem states. -/
import Derived.Test.YtiljallignlbgaaBookP
import Derived.Test.YtiljallignlbgaaIntRow
import Derived.Test.YtiljallignlbgaaOwnG
import Derived.Test.YtiljallignlbgaaRegion
namespace Go.Proofs.Ytiljallignlbgaa
open Go.RowKit
set_option linter.unusedVariables false

/-- where a book's parts lie -/
structure BkL where
  g : Nat
  gw : Nat
  gg : Nat
  gq : Nat
  cq : Nat
  T : List Value
def BkL.has (p : BkL) (k : Nat) : Prop := k = p.g ∨ k = p.gw ∨ k = p.gg ∨ k = p.gq
structure BkAt (w : World) (base nb : Nat) (p : BkL) (most ticks : Int) (s : BkS) : Prop where
  blk : Blk w p.g 87 #[.int .i64 most, .int .i64 ticks, .int .i64 s.round, .int .i64 s.reserve, .int .i64 s.all, .slice (some ⟨p.gw, 0, none⟩) nb nb, .slice (some ⟨p.gg, 0, none⟩) nb nb, .slice (some ⟨p.gq, 0, none⟩) nb p.cq]
  rw_ : IRow w p.gw s.wants []
  rg : IRow w p.gg s.granted []
  rq : IRow w p.gq s.quota p.T
  cap : nb + p.T.length = p.cq ∧ p.cq ≤ maxLen
  low : base ≤ p.g ∧ base ≤ p.gw ∧ base ≤ p.gg ∧ base ≤ p.gq
  ne : p.gw ≠ p.gg ∧ p.gw ≠ p.gq ∧ p.gg ≠ p.gq
section
variable {w w' : World} {base nb : Nat} {p : BkL} {most ticks : Int} {s : BkS}
theorem BkAt.ng (h : BkAt w base nb p most ticks s) : p.g ≠ p.gw ∧ p.g ≠ p.gg ∧ p.g ≠ p.gq :=
  ⟨Blk.ne_ h.blk h.rw_ (by decide), Blk.ne_ h.blk h.rg (by decide), Blk.ne_ h.blk h.rq (by decide)⟩
theorem BkAt.lt (h : BkAt w base nb p most ticks s) (k : Nat) (hk : p.has k) : k < w.heap.size := by
  rcases hk with rfl | rfl | rfl | rfl
  · exact h.blk.lt
  · exact Blk.lt h.rw_
  · exact Blk.lt h.rg
  · exact Blk.lt h.rq
theorem BkAt.only {D : Nat → Prop} (h : BkAt w base nb p most ticks s) (ho : Only D w w') (hn : ∀ k, p.has k → ¬ D k) : BkAt w' base nb p most ticks s :=
  ⟨h.blk.only ho (hn _ (.inl rfl)), Blk.only h.rw_ ho (hn _ (.inr (.inl rfl))), Blk.only h.rg ho (hn _ (.inr (.inr (.inl rfl)))), Blk.only h.rq ho (hn _ (.inr (.inr (.inr rfl)))), h.cap, h.low, h.ne⟩
theorem BkAt.calm (h : BkAt w base nb p most ticks s) (hb : Below w.heap.size w w') : BkAt w' base nb p most ticks s :=
  h.only (D := fun _ => False) (Only.of_below hb (fun x h1 h2 => by omega)) (fun _ _ e => e)
end

/-- behind a call that leaves the rows where they are -/
def BkPost (w : World) (base nb : Nat) (p : BkL) (most ticks : Int) (s' : BkS) (e : Ending) (w' : World) : Prop :=
  e = .returned (.tuple #[]) ∧ BkAt w' base nb p most ticks s' ∧ Only p.has w w'

set_option maxRecDepth 100000 in
theorem bookStock_any (base nb : Nat) (p : BkL) (most ticks : Int) (s : BkS) (w : World) (n : Int) (h : BkAt w base nb p most ticks s) (hr : 0 ≤ s.reserve ∧ s.reserve ≤ 1048576) (ha : 0 ≤ s.all ∧ s.all ≤ 1048576) (hn : 0 ≤ n ∧ n ≤ 1048576) :
    Calls Try.prog 29 #[.pointer (some ⟨p.g, 0, none⟩), .int .i64 n] w (BkPost w base nb p most ticks (stockB s n)) := by
  have c3 := h.blk.cell 3
  have c4 := h.blk.cell 4
  have f3 := h.blk.frozen 3
  have f4 := h.blk.frozen 4
  have HX := hide h
  clear h
  go_enter Try.func29, Try.ntmps29
  go_wp2_with fail
  go_end0
  refine ⟨rfl, ⟨?_, ?_, ?_, ?_, (unhide HX).cap, (unhide HX).low, (unhide HX).ne⟩, ?_⟩
  · exact ((unhide HX).blk.set_ 3 (.int .i64 (s.reserve + n))).set_ 4 (.int .i64 (s.all + n))
  · exact Blk.far (Blk.far (unhide HX).rw_ (Ne.symm (unhide HX).ng.1) _) (Ne.symm (unhide HX).ng.1) _
  · exact Blk.far (Blk.far (unhide HX).rg (Ne.symm (unhide HX).ng.2.1) _) (Ne.symm (unhide HX).ng.2.1) _
  · exact Blk.far (Blk.far (unhide HX).rq (Ne.symm (unhide HX).ng.2.2) _) (Ne.symm (unhide HX).ng.2.2) _
  · exact Only.setCell (Only.setCell (Only.refl _ _) (fun _ => .inl rfl) _) (fun _ => .inl rfl) _

set_option maxRecDepth 100000 in
set_option maxHeartbeats 1000000 in
theorem bookWant_any (base nb : Nat) (p : BkL) (most ticks : Int) (s : BkS) (w : World) (who : Nat) (n : Int) (h : BkAt w base nb p most ticks s) (hw : who < nb) (hl : s.wants.length = nb) (hnb : nb ≤ 8) :
    Calls Try.prog 30 #[.pointer (some ⟨p.g, 0, none⟩), .int .i64 who, .int .i64 n] w (BkPost w base nb p most ticks (wantB s who n)) := by
  have c5 := h.blk.cell 5
  have d0 := IRow.cell h.rw_ (get_of_lt hl hw)
  have f0 := IRow.frozen h.rw_ who
  have hwn : (who : Int) < (nb : Int) := by omega
  have HX := hide h
  have HF := hide (show wantB s who n = { s with wants := s.wants.set who (max (s.wants.getD who 0) n) } from rfl)
  obtain ⟨x, hx⟩ : ∃ x, x = s.wants.getD who 0 := ⟨_, rfl⟩
  rw [← hx] at d0 HF
  have HL := hide (show who < s.wants.length by rw [hl]; exact hw)
  clear h hl hx
  have key : ∀ (nq : Nat) (z : Int), z = max x n → BkPost w base nb p most ticks (wantB s who n) (.returned (.tuple #[])) ((w.drewN nq).setCell ⟨p.gw, who, none⟩ (.int .i64 z)) := fun nq z hz => by
    rw [unhide HF, ← hz]
    have hx := (unhide HX).only (D := fun _ => False) ((Only.refl _ w).drewN nq) (fun _ _ e => e)
    refine ⟨rfl, ⟨hx.blk.far hx.ng.1 _, hx.rw_.set_ (unhide HL) z, Blk.far hx.rg (Ne.symm hx.ne.1) _, Blk.far hx.rq (Ne.symm hx.ne.2.1) _, hx.cap, hx.low, hx.ne⟩, ?_⟩
    exact Only.setCell ((Only.refl _ w).drewN nq) (fun _ => .inr (.inl rfl)) _
  have KEY := hide key
  clear key
  rcases (show x < n ∨ n ≤ x by omega) with hxn | hxn
  all_goals
    go_enter Try.func30, Try.ntmps30
    go_wp2_with fail
    refine wp_region_draw_full [] [0, 1, 2, 3, 4, 5, 6, 7, 8, 9, 10, 11, 12] [] [13] 14 [15] (by kernel_rfl) (by kernel_rfl) (by intro c a d v w h; cases d <;> exact h) ?_
    simp only [pickOps, List.map_cons, List.map_nil, List.getD_cons_zero, List.getD_cons_succ]
    refine wpQuiet_nil ?_
    repeat (go_big_quiet_step (fail))
    refine wpQuiet_nil (wpQuiet_nil ?_)
    rintro _ ⟨nq, rfl⟩
    simp only [wpAl]
    go_wp2_with fail
    refine ⟨⟨nq, rfl⟩, ?_⟩
    go_wp2_with fail
    go_end0
    exact unhide KEY nq _ (by omega)
end Go.Proofs.Ytiljallignlbgaa
