/- A region that draws its order: a tree of orders whose last operations may come up in several orders, each behind all of the calm ones. Conditions: none beyond what each theorem states. -/
import Derived.Test.YtcmkcgegdclllaaDoorTree
namespace Go.Proofs.YtcmkcgegdclllaaDoor
open Go.RowKit

section
variable {P : Program} {Q : Exit → Act → World → Prop} {C : World → Prop}
def treeU (md : Region.Mode) (ops : Array Oper) (z hb al us : List Nat) (t : OT) : Bool :=
  Region.noSelect ops && us.all (fun u => sinkBy md ops u (hb ++ al)) &&
    (hb ++ al).all (fun i => !us.contains i) && us.all (fun i => decide (i < ops.size)) && z.all (fun i => decide (i < ops.size)) &&
    decide (z.length + (hb.length + t.depth) = ops.size) && t.even && (List.range ops.size).all (fun j => z.contains j || (hb ++ al).contains j || us.contains j) &&
    zBy md ops us z (Array.replicate ops.size false) && hbBy md ops hb (setAll (Array.replicate ops.size false) z) && t.ok md ops (setAll (setAll (Array.replicate ops.size false) z) hb)
theorem wp_region_treeU {id : Nat} {a : Act} {w : World} {l : List Oper} (z hb al us : List Nat) (t : OT) (hm : P.follows .mixedOrders = true) (hB : treeU .any l.toArray z hb al us t = true) (hQ : ∀ c a d v w, Q (.panic c) (a.put d v) w → Q (.panic c) a w) (hC : C { w with drawn := w.drawn + 1 })
    (h : wpQuiet P l.toArray (fun _ => True) (wpQuiet P l.toArray C (fun a' => wpT P l Q C (hb ++ al) t a' { w with drawn := w.drawn + 1 }) (pickOps l hb)) (pickOps l z) a) : (Code.region id l.toArray true).wp P Q a w := by
  simp only [treeU, Bool.and_eq_true, decide_eq_true_eq, List.all_eq_true] at hB
  obtain ⟨⟨⟨⟨⟨⟨⟨⟨⟨⟨hsel, hs1⟩, hd1⟩, hlt⟩, hzlt⟩, hlen⟩, hev⟩, hcov⟩, hz⟩, hhb⟩, htree⟩ := hB
  have hdis : ∀ k ∈ us, k ∉ hb ++ al := fun k hk hc => by have := hd1 k hc; simp only [Bool.not_eq_true', List.contains_eq_mem, decide_eq_false_iff_not] at this; exact this hk
  have inv0 : HeadBy .any l.toArray us (Array.replicate l.toArray.size false) :=
    ⟨by simp, fun j oj _ hl => (by rw [getD_replicate_false] at hl; cases hl), fun x hx => getD_in (by have := hlt x hx; simpa using this) (getD_replicate_false _ _)⟩
  have inv1 := HeadBy.setAll z _ inv0 hz
  have hI1 : ∀ listed j, (HeadBy .any l.toArray us listed ∧ ∀ k ∈ z, listed.getD k false = true) → j ∈ Region.ready .any l.toArray listed → j ∈ hb ++ al → (HeadBy .any l.toArray us (listed.setIfInBounds j true) ∧ ∀ k ∈ z, (listed.setIfInBounds j true).getD k false = true) :=
    fun listed j h hj hc => ⟨h.1.set hj (fun hx => hdis j hx hc), fun k hk => getD_set_true (h.2 k hk)⟩
  have hw1 : ∀ i, i ∈ hb ++ al → ∀ listed j, (HeadBy .any l.toArray us listed ∧ ∀ k ∈ z, listed.getD k false = true) → listed.getD i true = false → j ∈ Region.ready .any l.toArray listed → j ∈ hb ++ al := by
    intro i hi listed j hI hun hj
    obtain ⟨hjun, oj, hoj, _⟩ := mem_ready.1 hj
    have hjs : j < l.toArray.size := (Array.getElem?_eq_some_iff.1 hoj).1
    have hcj := hcov j (List.mem_range.2 hjs)
    simp only [Bool.or_eq_true, List.contains_eq_mem, decide_eq_true_eq] at hcj
    rcases hcj with (h1 | h1) | h1
    · have h2 := hI.2 j h1
      rw [getD_both hjun] at h2
      cases h2
    · exact h1
    · exact absurd hj (first_waits (tl := []) ⟨hI.1.size, hI.1.closed, fun x hx => by rw [List.mem_singleton] at hx; subst hx; exact hI.1.tail _ h1⟩ _ (hs1 j h1) i hi hun)
  refine wp_region_any hm ?_
  suffices H2 : wpAny P .any l.toArray Q (z.length + (hb.length + t.depth)) (Array.replicate l.toArray.size false) a { w with drawn := w.drawn + 1 } by rw [hlen] at H2; exact H2
  refine wpAny_of_z hsel hQ z _ a hz h fun a' h' => wpAny_of_wpS (C := C) (cal := hb ++ al) _ _ _ _ ?_
  refine wpS_of_hb hsel hQ (fun listed => HeadBy .any l.toArray us listed ∧ ∀ k ∈ z, listed.getD k false = true) hI1 hw1 hC hb _ a' ⟨inv1, fun k hk => setAll_true z _ k (by have := hzlt k hk; simpa using this) (.inl hk)⟩ (fun i hi => by simp [hi]) hhb h' ?_
  intro a2 _ h2
  exact (wpS_of_kids t t.depth _ a2 _ (Nat.le_refl _) hev).2 htree h2
theorem wp_region_calm_treeU {id : Nat} {a : Act} {w : World} {l : List Oper} (z hb al us : List Nat) (t : OT) (hm : P.follows .mixedOrders = true) (hB : treeU .any l.toArray z hb al us t = true) (hQ : ∀ c a d v w, Q (.panic c) (a.put d v) w → Q (.panic c) a w)
    (h : wpQuiet P l.toArray (fun _ => True) (wpQuiet P l.toArray (fun w' => ∃ n : Ext w, w' = n.W) (fun a' => wpT P l Q (fun w' => ∃ n : Ext w, w' = n.W) (hb ++ al) t a' w.drew) (pickOps l hb)) (pickOps l z) a) : (Code.region id l.toArray true).wp P Q a w :=
  wp_region_treeU z hb al us t hm hB hQ ⟨⟨w.drew, (Below.refl _ w).drew⟩, rfl⟩ h
/-- several operations, one behind the other -/
def OT.line : List Nat → OT → OT
  | [], t => t
  | k :: l, t => .next k (OT.line l t)
end
end Go.Proofs.YtcmkcgegdclllaaDoor
