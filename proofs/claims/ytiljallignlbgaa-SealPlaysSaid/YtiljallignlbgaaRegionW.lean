/- A region that draws its order: loads that read alike in every world that meets C, then operations in one order, each of which leaves a world that meets C (a writing call beside loads that do not wait for it). Conditions: none beyond what each theorem states. -/
import Derived.Test.YtiljallignlbgaaRegion
namespace Go.Proofs.Ytiljallignlbgaa
open Go.RowKit

section
variable {P : Program} {Q : Exit → Act → World → Prop} {C : World → Prop}
def weakB (md : Region.Mode) (ops : Array Oper) (hd tl : List Nat) : Bool :=
  Region.noSelect ops && decide (hd.length + (tl ++ []).length = ops.size) && (List.range ops.size).all (fun j => (hd ++ tl).contains j) && hbBy md ops hd (Array.replicate ops.size false) && seqBy md ops (tl ++ []) (setAll (Array.replicate ops.size false) hd)
theorem wp_region_weak {id : Nat} {a : Act} {w : World} {l : List Oper} (hd tl : List Nat) (hm : P.follows .mixedOrders = true) (hB : weakB .any l.toArray hd tl = true) (hQ : ∀ c a d v w, Q (.panic c) (a.put d v) w → Q (.panic c) a w) (hC : C w.drew)
    (h : wpQuiet P l.toArray C (fun a' => wpAl P l.toArray Q C (fun a2 w2 => wpList P l.toArray Q (pickOps l []) a2 w2) (pickOps l tl) a' w.drew) (pickOps l hd) a) : (Code.region id l.toArray true).wp P Q a w := by
  simp only [weakB, Bool.and_eq_true, decide_eq_true_eq, List.all_eq_true] at hB
  obtain ⟨⟨⟨⟨hsel, hlen⟩, hcov⟩, hhb⟩, hseq⟩ := hB
  refine wp_region_any hm ?_
  suffices H2 : wpAny P .any l.toArray Q (hd.length + (tl ++ []).length) (Array.replicate l.toArray.size false) a { w with drawn := w.drawn + 1 } by rw [hlen] at H2; exact H2
  refine wpAny_of_wpS (C := C) (cal := hd ++ tl) _ _ _ _ ?_
  have hall : ∀ listed j, j ∈ Region.ready .any l.toArray listed → j ∈ hd ++ tl := fun listed j hj => by
    obtain ⟨_, oj, hoj, _⟩ := mem_ready.1 hj
    have hjs : j < l.toArray.size := (Array.getElem?_eq_some_iff.1 hoj).1
    have := hcov j (List.mem_range.2 hjs)
    simpa using this
  refine wpS_of_hb (C := C) hsel hQ (fun _ => True) (fun _ _ _ _ _ => trivial) (fun i _ listed j _ _ hj => hall listed j hj) hC hd _ a trivial (fun i hi => by simp [hi]) hhb h ?_
  intro a' _ h2
  exact wpS_of_al tl _ a' _ (fun k hk => by cases hk) hseq h2
end
end Go.Proofs.Ytiljallignlbgaa
