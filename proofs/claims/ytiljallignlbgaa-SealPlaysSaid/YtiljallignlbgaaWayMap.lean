/- Maps from pairs of ints to ints that the call makes: look-up and store in words of one plain function. Conditions: none beyond what each theorem states. -/
import Derived.Test.YtiljallignlbgaaProg
import Derived.Test.YtiljallignlbgaaKit
import Derived.Test.YtiljallignlbgaaOnly
import Derived.Maps.OwnOps
import Derived.Maps.OwnSet
import Derived.Maps.Views
import Derived.DeepKeys4
import Derived.MapViews
namespace Go.Proofs.Ytiljallignlbgaa
open Go.RowKit
open Go.Maps (Keyed)
set_option linter.unusedVariables false

def wayV (f t : Int) : Value := .agg #[.int .i64 f, .int .i64 t]
theorem way_laid : laidOutB Try.prog = true := by kernel_rfl
set_option maxRecDepth 100000 in
theorem way_row : (102 : TypeId) < Try.prog.types.size := of_decide_eq_true (by kernel_rfl)
theorem way_kt : Try.prog.keyTypeAt 2 102 = true := by kernel_rfl
theorem way_law : Keyed Try.prog 102 := Keyed.of_law (deep_law_laid way_laid (m := 2) (Nat.le_of_ble_eq_true rfl) way_row way_kt (by rw [Try.underlying102]))
theorem way_deep : Try.prog.keyTypeAt (Try.prog.types.size + 1) 102 = true := by kernel_rfl
theorem way_cells : Try.prog.cellsOf 102 = 2 := by kernel_rfl
theorem int_cells : Try.prog.cellsOf 3 = 1 := by kernel_rfl
theorem way_formed (f t : Int) : (wayV f t).formed Try.prog 102 = true := by simp [wayV, Value.formed, Try.underlying102, way_cells]
theorem way_key (w : World) (f t : Int) (hf : (Lit.int .i64 f).wf = true) (ht : (Lit.int .i64 t).wf = true) : ∃ l, keyOf Try.prog 102 (wayV f t) = some l := by
  have hT : ∃ d ps, DataW.Trod (H := Unit) (fun _ => ()) Try.prog w 0 (fun _ => true) true 102 (wayV f t) d ps := by
    exact ⟨_, _, 3, by simp [DataW.trod, wayV, Value.cells, Try.underlying102, Try.underlying3, way_cells, int_cells, show List.range 2 = [0, 1] from rfl, hf, ht]; exact ⟨rfl, rfl⟩⟩
  obtain ⟨d, ps, hd⟩ := hT
  exact ⟨_, (keyOf_asKey way_deep (by rw [Try.underlying102]) (way_formed f t) hd).1⟩
theorem int_zero (w : World) : (zeroValue 3).run Try.prog w = .ok (.int .i64 0) w := by kernel_rfl

/-- block b is a map of at most n entries; 'top' says what it holds -/
def WayMap (w : World) (b n : Nat) (top : Int → Int → Int) : Prop :=
  ∃ D : DataW Unit, w.ownsMap Try.prog 102 (plainElem Try.prog 3) b n D ∧ ∀ f t l, keyOf Try.prog 102 (wayV f t) = some l → D.atKey l (.lit (.int .i64 0)) = .lit (.int .i64 (top f t))
section
variable {w w' : World} {b n : Nat} {top : Int → Int → Int}
theorem WayMap.made (w : World) : WayMap (w.alloc (.map #[] 0)) w.heap.size 0 (fun _ _ => 0) :=
  ⟨.map [], World.ownsMap_made w _ _ _, fun f t l _ => WideAt.atKey_none _ (fun p hp => by cases hp)⟩
theorem WayMap.lt (h : WayMap w b n top) : b < w.heap.size := by obtain ⟨D, h, _⟩ := h; exact h.lt
theorem WayMap.mono {n' : Nat} (h : WayMap w b n top) (hn : n ≤ n') : WayMap w b n' top := by obtain ⟨D, h, k⟩ := h; exact ⟨D, h.mono hn, k⟩
theorem WayMap.only {D : Nat → Prop} (h : WayMap w b n top) (ho : Only D w w') (hn : ¬ D b) : WayMap w' b n top := by
  have hlt := h.lt
  obtain ⟨E, ⟨es, clock, hb, r⟩, k⟩ := h
  exact ⟨E, ⟨es, clock, (ho.block b hlt hn).trans hb, r⟩, k⟩
theorem WayMap.below (h : WayMap w b n top) (hb : Below w.heap.size w w') : WayMap w' b n top := h.only (D := fun _ => False) (Only.of_below hb (fun x h1 h2 => by omega)) (fun e => e)
theorem WayMap.drew (h : WayMap w b n top) : WayMap w.drew b n top := h
theorem WayMap.look (h : WayMap w b n top) (f t : Int) (hf : (Lit.int .i64 f).wf = true) (ht : (Lit.int .i64 t).wf = true) :
    (Instr.lookup 78 (.map (some b)) (wayV f t) false).run Try.prog w = .ok (.int .i64 (top f t)) w := by
  obtain ⟨l, hl⟩ := way_key w f t hf ht
  obtain ⟨D, h, k⟩ := h
  obtain ⟨c, hrun, hat, _⟩ := h.lookup_int way_law Try.underlying78 Try.underlying3 (int_zero w) hl
  have h1 : top f t = c := (Lit.int.inj (DataW.lit.inj ((k f t l hl).symm.trans hat))).2
  exact hrun.trans (by rw [h1])
theorem WayMap.store (h : WayMap w b n top) (f t v : Int) (hf : (Lit.int .i64 f).wf = true) (ht : (Lit.int .i64 t).wf = true) (hv : (Lit.int .i64 v).wf = true) (hn : n < maxLen) :
    ∃ w', (Instr.mapUpdate 78 (.map (some b)) (wayV f t) (.int .i64 v)).run Try.prog w = .ok () w' ∧ WayMap w' b (n + 1) (fun f' t' => if f' = f ∧ t' = t then v else top f' t') ∧ w.grownBy w' (some b) := by
  obtain ⟨l, hl⟩ := way_key w f t hf ht
  obtain ⟨D, h, k⟩ := h
  obtain ⟨w', hrun, hown, hg⟩ := h.update way_law Try.underlying78 hn hl (plainElem_int Try.underlying3 hv)
  refine ⟨w', hrun, ⟨_, hown, fun f' t' l' hl' => ?_⟩, hg⟩
  show _ = DataW.lit (Lit.int .i64 (if f' = f ∧ t' = t then v else top f' t'))
  by_cases he : f' = f ∧ t' = t
  · obtain ⟨rfl, rfl⟩ := he
    have e := Option.some.inj (hl.symm.trans hl')
    subst e
    rw [if_pos ⟨rfl, rfl⟩]
    exact Maps.atKey_put_same h.isMap (way_law.key hl) _ _
  · rw [if_neg he, Maps.atKey_put_other (fun e => he ?_)]
    · exact k f' t' l' hl'
    · subst e
      have := way_law.inj hl hl'
      unfold wayV at this
      injection this with this
      simp at this
      exact ⟨this.1.symm, this.2.symm⟩
end
end Go.Proofs.Ytiljallignlbgaa
