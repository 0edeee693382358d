/- Contracts and plain facts, set together by program out of smaller texts. Conditions: none beyond what each theorem states. -/
import Derived.Test.YtbolcebmbpepdaaGreatDoorM06
namespace Go.Proofs.YtbolcebmbpepdaaGreatDoor
set_option linter.unusedVariables false
section
open Go.RowKit
section
variable {P : Program} {Q : Exit → Act → World → Prop} {C : World → Prop} {md : Region.Mode}
def lnBy (md : Region.Mode) (ops : Array Oper) : List Nat → Array Bool → Bool
 | [], _ => true
 | k :: ln, listed => decide (Region.ready md ops listed = [k]) && (ops[k]?).isSome && lnBy md ops ln (listed.setIfInBounds k true)
theorem zSn {l : List Oper} {cal : List Nat} {g : Nat} {K : Act → World → Prop} : ∀ (ln : List Nat) (listed : Array Bool) (a : Act) (w : World), C w → lnBy md l.toArray ln listed = true → wpAl P l.toArray Q C K (zAb l ln) a w →
    (∀ a' w', C w' → K a' w' → wpS P md l.toArray Q C cal g (zBx listed ln) a' w') → wpS P md l.toArray Q C cal (ln.length + g) listed a w
 | [], listed, a, w, hc, _, h, hK => by rw [List.length_nil, Nat.zero_add]; exact hK a w hc h
 | k :: ln, listed, a, w, hc, hB, h, hK => by
  simp only [lnBy, Bool.and_eq_true, decide_eq_true_eq] at hB
  obtain ⟨⟨hr, hsome⟩, hB'⟩ := hB
  rw [List.length_cons, show ln.length + 1 + g = (ln.length + g) + 1 by omega]
  refine ⟨fun h1 => (by rw [hr] at h1; cases h1), fun i hi => ?_⟩
  rw [hr] at hi
  have hik : i = k := by simpa using hi
  subst hik
  obtain ⟨o, ho⟩ := Option.isSome_iff_exists.1 hsome
  rw [zIs ln ho] at h
  exact wpOp_mono (fun a' w' h' => ⟨fun _ => h'.1, zSn ln _ a' w' h'.1 hB' h'.2 hK⟩) (zId ho h)
def lineB (md : Region.Mode) (ops : Array Oper) (hd ln fl : List Nat) : Bool :=
 Region.noSelect ops && decide (hd.length + (ln.length + fl.length) = ops.size) && (List.range ops.size).all (fun j => (hd ++ ln ++ fl).contains j) && hbBy md ops hd (Array.replicate ops.size false) &&
  lnBy md ops ln (zBx (Array.replicate ops.size false) hd) && hbBy md ops fl (zBx (zBx (Array.replicate ops.size false) hd) ln) && (Region.ready md ops (zBx (zBx (zBx (Array.replicate ops.size false) hd) ln) fl)).isEmpty
theorem zRa {id : Nat} {a : Act} {w : World} {l : List Oper} (hd ln fl : List Nat) (hm : P.follows .mixedOrders = true) (hB : lineB .any l.toArray hd ln fl = true) (hQ : ∀ c a d v w, Q (.panic c) (a.put d v) w → Q (.panic c) a w) (hC : C w.drew)
    (h : wpQuiet P l.toArray C (fun a' => wpAl P l.toArray Q C (fun a2 w2 => wpQuiet P l.toArray C (fun a3 => Q .normal a3 w2) (zAb l fl) a2) (zAb l ln) a' w.drew) (zAb l hd) a) : (Code.region id l.toArray true).wp P Q a w := by
 simp only [lineB, Bool.and_eq_true, decide_eq_true_eq, List.all_eq_true] at hB
 obtain ⟨⟨⟨⟨⟨⟨hsel, hlen⟩, hcov⟩, hhd⟩, hln⟩, hfl⟩, hend⟩ := hB
 refine wp_region_any hm ?_
 suffices H2 : wpAny P .any l.toArray Q (hd.length + (ln.length + (fl.length + 0))) (Array.replicate l.toArray.size false) a { w with drawn := w.drawn + 1 } by rw [Nat.add_zero, hlen] at H2; exact H2
 refine zEn (C := C) (cal := hd ++ ln ++ fl) _ _ _ _ ?_
 have hall : ∀ listed j, j ∈ Region.ready .any l.toArray listed → j ∈ hd ++ ln ++ fl := fun listed j hj => by
  obtain ⟨_, oj, hoj, _⟩ := mem_ready.1 hj
  have hjs : j < l.toArray.size := (Array.getElem?_eq_some_iff.1 hoj).1
  have := hcov j (List.mem_range.2 hjs)
  simpa using this
 refine zFq (C := C) hsel hQ (fun _ => True) (fun _ _ _ _ _ => trivial) (fun i _ listed j _ _ hj => hall listed j hj) hC hd _ a trivial (fun i hi => by simp [hi]) hhd h ?_
 intro a' _ h2
 refine zSn ln _ a' _ hC hln h2 ?_
 intro a2 w2 hc2 h3
 refine zFq (C := C) hsel hQ (fun _ => True) (fun _ _ _ _ _ => trivial) (fun i _ listed j _ _ hj => hall listed j hj) hc2 fl _ a2 trivial (fun i hi => by simp [hi]) hfl h3 ?_
 intro a3 _ h4
 exact ⟨by simpa using hend, h4⟩
theorem zDz {id : Nat} {a : Act} {w : World} {l : List Oper} (hd ln fl : List Nat) (hm : P.follows .mixedOrders = true) (hB : lineB .any l.toArray hd ln fl = true) (hQ : ∀ c a d v w, Q (.panic c) (a.put d v) w → Q (.panic c) a w)
    (h : wpQuiet P l.toArray (fun w' => ∃ n : Ext w, w' = n.W) (fun a' => wpAl P l.toArray Q (fun w' => ∃ n : Ext w, w' = n.W) (fun a2 w2 => wpQuiet P l.toArray (fun w' => ∃ n : Ext w, w' = n.W) (fun a3 => Q .normal a3 w2) (zAb l fl) a2) (zAb l ln) a' w.drew) (zAb l hd) a) : (Code.region id l.toArray true).wp P Q a w :=
 zRa hd ln fl hm hB hQ ⟨⟨w.drew, (Below.refl _ w).drew⟩, rfl⟩ h
end
end
end Go.Proofs.YtbolcebmbpepdaaGreatDoor
