/- What clock.Play holds in memory between two events, and how one event changes it. Conditions: none beyond what each theorem states. -/
import Derived.Test.YtickpflebmecpaaRowsOk
import Derived.Test.YtickpflebmecpaaClockH
import Derived.Test.YtickpflebmecpaaCalm
namespace Go.Proofs.Ytickpflebmecpaa
open Go.RowKit
set_option linter.unusedVariables false

/-- behind k events: 'v' is what is handed out, the header's block holds each site's clock ('m' of the sites' are changed: those of event k) -/
def PlaySt (w wr : World) (es : List Ev) (s k m : Nat) (v : Value) : Prop := ∃ O L : List ORw,
  wr.ownsRow (w.heap.size + 1) 22 1 v k (O.map ORw.val) ∧ RowsOk wr (w.heap.size + 1) O ∧ O.map (·.zs) = (List.range k).map (clkRow es s) ∧
  Hdr wr w.heap.size L 0 ∧ RowsOk wr (w.heap.size + 1) L ∧ L.map (·.zs) = (List.range s).map (nowF es s m) ∧ Below w.heap.size w wr
section
variable {w wr w' : World} {es : List Ev} {s k m : Nat} {v : Value}
theorem PlaySt.bel (h : PlaySt w wr es s k m v) : Below w.heap.size w wr := by obtain ⟨O, L, _, _, _, _, _, _, h⟩ := h; exact h
theorem PlaySt.below (h : PlaySt w wr es s k m v) (hb : Below wr.heap.size wr w') : PlaySt w w' es s k m v := by
  obtain ⟨O, L, h1, h2, h3, h4, h5, h6, h7⟩ := h
  exact ⟨O, L, own_below h1 hb, h2.below hb, h3, Blk.below h4 hb (Blk.lt h4), h5.below hb, h6, h7.trans (hb.mono h7.size)⟩
theorem PlaySt.now (h : PlaySt w wr es s k m v) {p : Nat} (hp : p < s) : ∃ g cap, wr.cell? ⟨w.heap.size, p, none⟩ = some (.slice (some ⟨g, 0, none⟩) s cap) ∧ g < wr.heap.size ∧ Reads wr wr.heap.size 1 (some ⟨g, 0, none⟩) s ((nowF es s m p).map (.int .i64)) := by
  obtain ⟨O, L, h1, h2, h3, h4, h5, h6, h7⟩ := h
  have hl : L.length = s := by have := congrArg List.length h6; simpa using this
  have hr : L[p]? = some (L[p]'(by omega)) := List.getElem?_eq_getElem (by omega)
  generalize L[p]'(by omega) = r at hr
  have hz : r.zs = nowF es s m p := by
    have h := congrArg (fun l => l[p]?) h6
    simp only [List.getElem?_map, hr, List.getElem?_range hp, Option.map_some] at h
    injection h
  have hzl : r.zs.length = s := by rw [hz]; exact nowF_len _ _ _ _
  have hc := Hdr.cell h4 hr
  rw [hzl] at hc
  have hok := h5 r (List.mem_of_getElem? hr)
  exact ⟨r.g, r.cap, hc, hok.2.2.2.lt, by rw [← hz]; exact hok.2.2.2.reads hzl⟩
theorem PlaySt.free (h : PlaySt w wr es s k m v) (p : Nat) : wr.frozen? ⟨w.heap.size, p, none⟩ = false := by
  obtain ⟨O, L, h1, h2, h3, h4, h5, h6, h7⟩ := h
  exact Blk.frozen h4 p
theorem PlaySt.lt (h : PlaySt w wr es s k m v) : w.heap.size < wr.heap.size := by
  obtain ⟨O, L, h1, h2, h3, h4, h5, h6, h7⟩ := h
  exact Blk.lt h4
theorem PlaySt.out (h : PlaySt w wr es s k m v) {o : Nat} (ho : o < k) : ∃ b c g cap, v = .slice (some ⟨b, 0, none⟩) k c ∧ wr.cell? ⟨b, o, none⟩ = some (.slice (some ⟨g, 0, none⟩) s cap) ∧ b < wr.heap.size ∧ Reads wr wr.heap.size 1 (some ⟨g, 0, none⟩) s ((clkRow es s o).map (.int .i64)) := by
  obtain ⟨O, L, h1, h2, h3, h4, h5, h6, h7⟩ := h
  have hl : O.length = k := by have := congrArg List.length h3; simpa using this
  have hr : O[o]? = some (O[o]'(by omega)) := List.getElem?_eq_getElem (by omega)
  generalize O[o]'(by omega) = r at hr
  have hz : r.zs = clkRow es s o := by
    have h := congrArg (fun l => l[o]?) h3
    simp only [List.getElem?_map, hr, List.getElem?_range ho, Option.map_some] at h
    injection h
  have hzl : r.zs.length = s := by rw [hz]; exact clkRow_len _ _ _
  have hok := h2 r (List.mem_of_getElem? hr)
  obtain ⟨b, c, hv, hb, hlt⟩ := h1.form (by omega)
  have hc := h1.cells (g := b) (by rw [hv]; rfl) o r.val (by rw [List.getElem?_map, hr]; rfl)
  have e : (⟨b, 0, none⟩ : Addr).add o = ⟨b, o, none⟩ := by unfold Addr.add; split <;> simp_all
  rw [e] at hc
  rw [orw_val hzl] at hc
  exact ⟨b, c, r.g, r.cap, hv, hc, hlt, by rw [← hz]; exact hok.2.2.2.reads hzl⟩
/-- site p's clock is laid anew -/
theorem PlaySt.put (h : PlaySt w wr es s k k v) (hb : Below wr.heap.size wr w') {p gc cap : Nat} {c1 : List Int} {TT : List Value} (hw : whoF es k = (p : Int)) (hp : p < s)
    (hI : IRow w' gc c1 TT) (hg : wr.heap.size ≤ gc) {z : Int} (hl : c1.length = s) (hz : c1.set p (z + 1) = clkRow es s k) (hc1 : s + TT.length = cap) (hc2 : cap ≤ maxLen) :
    PlaySt w ((w'.setCell ⟨gc, p, none⟩ (.int .i64 (z + 1))).setCell ⟨w.heap.size, p, none⟩ (.slice (some ⟨gc, 0, none⟩) s cap)) es s k (k + 1) v ∧
    Reads ((w'.setCell ⟨gc, p, none⟩ (.int .i64 (z + 1))).setCell ⟨w.heap.size, p, none⟩ (.slice (some ⟨gc, 0, none⟩) s cap)) w'.heap.size 1 (some ⟨gc, 0, none⟩) s ((clkRow es s k).map (.int .i64)) := by
  obtain ⟨O, L, h1, h2, h3, h4, h5, h6, h7⟩ := h
  have hwr := Blk.lt h4
  have hsz := hb.size
  have hLl : L.length = s := by have := congrArg List.length h6; simpa using this
  have b1 := own_below h1 hb
  have b2 := h2.below hb
  have b4 : Hdr w' w.heap.size L 0 := Blk.below h4 hb hwr
  have b5 := h5.below hb
  have hgc : gc ≠ w.heap.size := by omega
  have c1o := own_set_far b1 hI (by decide) p (.int .i64 (z + 1))
  have c2 := b2.apart (g := gc) (fun r hr e => by have := h2.lt r hr; omega) p (.int .i64 (z + 1))
  have c4 : Hdr (w'.setCell ⟨gc, p, none⟩ (.int .i64 (z + 1))) w.heap.size L 0 := Blk.far b4 (Ne.symm hgc) _
  have c5 := b5.apart (g := gc) (fun r hr e => by have := h5.lt r hr; omega) p (.int .i64 (z + 1))
  have cI : IRow (w'.setCell ⟨gc, p, none⟩ (.int .i64 (z + 1))) gc (clkRow es s k) TT := by rw [← hz]; exact hI.set_ (by omega) _
  have hrow : ORw.ok ⟨gc, cap, clkRow es s k, TT⟩ (w'.setCell ⟨gc, p, none⟩ (.int .i64 (z + 1))) (w.heap.size + 1) := ⟨by show _ ≤ gc; omega, by show (clkRow es s k).length + _ = cap; rw [clkRow_len]; exact hc1, hc2, cI⟩
  have hval : ORw.val ⟨gc, cap, clkRow es s k, TT⟩ = .slice (some ⟨gc, 0, none⟩) s cap := by rw [ORw.val]; dsimp only; rw [clkRow_len]
  have d4 := c4.put (k := p) (by omega) ⟨gc, cap, clkRow es s k, TT⟩
  rw [hval] at d4
  have hhdr : Blk (w'.setCell ⟨gc, p, none⟩ (.int .i64 (z + 1))) w.heap.size 22 _ := c4
  have dall := (c5.set hrow p).far hhdr (by decide) p (.slice (some ⟨gc, 0, none⟩) s cap)
  have drow := (RowsOk.one hrow).far hhdr (by decide) p (.slice (some ⟨gc, 0, none⟩) s cap)
  refine ⟨⟨O, L.set p ⟨gc, cap, clkRow es s k, TT⟩, ?_, c2.far hhdr (by decide) p _, h3, d4, dall, ?_, ?_⟩, ?_⟩
  · refine World.ownsRow.kept c1o (only_setCell (World.grownBy.refl _ (some w.heap.size)) (.inl rfl) _) (.inr fun e => ?_)
    have := (c1o.lt _ e).1
    omega
  · rw [List.map_set, h6]
    refine set_map_range _ _ _ _ _ (fun _ => ?_) (fun q _ hq => ?_)
    · show nowF es s (k + 1) p = _
      rw [nowF, if_pos hw]
    · show nowF es s (k + 1) q = _
      rw [nowF, if_neg (by rw [hw]; omega)]
  · exact ((h7.trans (hb.mono h7.size)).setCell (by show w.heap.size ≤ gc; omega) _).setCell (Nat.le_refl _) _
  · have := (drow _ (List.mem_singleton.2 rfl)).2.2.2.reads (clkRow_len es s k)
    simpa [World.setCell] using this
/-- a copy of it is handed out, too -/
theorem PlaySt.push (h : PlaySt w wr es s k m v) : ∃ xs, wr.ownsRow (w.heap.size + 1) 22 1 v k xs ∧ ∀ (r : ORw) (w' : World) (v' : Value), r.ok wr (w.heap.size + 1) → r.zs = clkRow es s k → wr.grownBy w' v.ownBlock →
    w'.ownsRow (w.heap.size + 1) 22 1 v' (k + 1) (xs ++ [r.val]) → Below w.heap.size w w' → PlaySt w w' es s (k + 1) m v' := by
  obtain ⟨O, L, h1, h2, h3, h4, h5, h6, h7⟩ := h
  refine ⟨O.map ORw.val, h1, fun r w' v' hr hz hg hown hb => ?_⟩
  refine ⟨O ++ [r], L, by rw [List.map_append]; exact hown, (h2.app (RowsOk.one hr)).grown h1 (by decide) hg, by rw [List.map_append, h3, List.range_succ, List.map_append]; simp [hz], ?_, h5.grown h1 (by decide) hg, h6, hb⟩
  refine Blk.grown h4 hg fun e => ?_
  have := (h1.lt _ e.symm).1
  omega
theorem PlaySt.start {L : List ORw} (h4 : Hdr wr w.heap.size L 0) (h5 : RowsOk wr (w.heap.size + 1) L) (h6 : L.map (·.zs) = (List.range s).map (nowF es s 0)) (h7 : Below w.heap.size w wr) : PlaySt w wr es s 0 0 (.slice none 0 0) :=
  ⟨[], L, World.ownsRow_nil _ _ _ _, RowsOk.nil _ _, rfl, h4, h5, h6, h7⟩
def TabPost (base : Nat) (r : List (List Int) × Int) (e : Ending) (w w' : World) : Prop :=
  ∃ A n c rs, e = .returned (.tuple #[.slice A n c, .int .i64 r.2]) ∧ n ≤ c ∧ c ≤ maxLen ∧ Tab w' w'.heap.size A n rs ∧ rs.map (·.zs) = r.1 ∧ Below base w w'
theorem tabPost_nil (w w' : World) (c : Int) (h : Below w.heap.size w w') : TabPost w.heap.size ([], c) (.returned (.tuple #[.slice none 0 0, .int .i64 c])) w w' :=
  ⟨none, 0, 0, [], rfl, Nat.le_refl _, Nat.zero_le _, ⟨rfl, Reads.none_, fun r h => by cases h⟩, rfl, h⟩
theorem PlaySt.done (h : PlaySt w wr es s k m v) : ∃ A c, v = .slice A k c ∧ TabPost w.heap.size ((List.range k).map (clkRow es s), 0) (.returned (.tuple #[.slice A k c, .int .i64 0])) w wr := by
  obtain ⟨O, L, h1, h2, h3, h4, h5, h6, h7⟩ := h
  have hl : O.length = k := by have := congrArg List.length h3; simpa using this
  subst hl
  obtain ⟨A, c, rfl, h8, h9, ht⟩ := rowsok_tab h1 h2
  exact ⟨A, c, rfl, A, _, c, _, rfl, h8, h9, ht, by rw [List.map_map]; exact h3, h7⟩
end
end Go.Proofs.Ytickpflebmecpaa
