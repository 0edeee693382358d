/- Contracts and plain facts, set together by program out of smaller texts. Conditions: none beyond what each theorem states. -/
import Derived.Test.YtbolcebmbpepdaaGreatDoorProg
import Derived.Lib.SliceRun
import Derived.Test.YtbolcebmbpepdaaGreatDoorM04
import Derived.Test.YtbolcebmbpepdaaGreatDoorM01
import Derived.Test.YtbolcebmbpepdaaGreatDoorM02
namespace Go.Proofs.YtbolcebmbpepdaaGreatDoor
set_option linter.unusedVariables false
section
open Go.RowKit
inductive OT where
 | done : OT
 | next : Nat → OT → OT
 | fork : OT → OT → OT
def OT.keys : OT → List Nat
 | .done => []
 | .next k _ => [k]
 | .fork a b => a.keys ++ b.keys
section
variable {P : Program} {ops : Array Oper} {Q : Exit → Act → World → Prop} {md : Region.Mode} {C : World → Prop}
def OT.chk (md : Region.Mode) (ops : Array Oper) : OT → Array Bool → Bool × Bool
 | .done, listed => ((Region.ready md ops listed).isEmpty, true)
 | .next k t, listed => (decide (Region.ready md ops listed = [k]) && ((ops[k]?).isSome && (t.chk md ops (listed.setIfInBounds k true)).1), (ops[k]?).isSome && (t.chk md ops (listed.setIfInBounds k true)).1)
 | .fork a b, listed => (decide (Region.ready md ops listed = a.keys ++ b.keys) && !(a.keys ++ b.keys).isEmpty && (a.chk md ops listed).2 && (b.chk md ops listed).2, (a.chk md ops listed).2 && (b.chk md ops listed).2)
def OT.ok (md : Region.Mode) (ops : Array Oper) (t : OT) (listed : Array Bool) : Bool := (t.chk md ops listed).1
def OT.kids (md : Region.Mode) (ops : Array Oper) (t : OT) (listed : Array Bool) : Bool := (t.chk md ops listed).2
theorem OT.ok_done (listed : Array Bool) : OT.ok md ops .done listed = (Region.ready md ops listed).isEmpty := rfl
theorem OT.ok_next (k : Nat) (t : OT) (listed : Array Bool) : OT.ok md ops (.next k t) listed = (decide (Region.ready md ops listed = [k]) && OT.kids md ops (.next k t) listed) := rfl
theorem OT.ok_fork (a b : OT) (listed : Array Bool) : OT.ok md ops (.fork a b) listed = (decide (Region.ready md ops listed = a.keys ++ b.keys) && !(a.keys ++ b.keys).isEmpty && OT.kids md ops a listed && OT.kids md ops b listed) := rfl
theorem OT.kids_next (k : Nat) (t : OT) (listed : Array Bool) : OT.kids md ops (.next k t) listed = ((ops[k]?).isSome && OT.ok md ops t (listed.setIfInBounds k true)) := rfl
theorem OT.kids_fork (a b : OT) (listed : Array Bool) : OT.kids md ops (.fork a b) listed = (OT.kids md ops a listed && OT.kids md ops b listed) := rfl
def OT.depth : OT → Nat
 | .done => 0
 | .next _ t => t.depth + 1
 | .fork a _ => a.depth
def OT.even : OT → Bool
 | .done => true
 | .next _ t => t.even
 | .fork a b => a.even && b.even && decide (a.depth = b.depth)
def wpT (P : Program) (l : List Oper) (Q : Exit → Act → World → Prop) (C : World → Prop) (cal : List Nat) : OT → Act → World → Prop
 | .done, a, w => Q .normal a w
 | .next k t, a, w => wpList P l.toArray (fun e a' w' => match e with | .normal => (k ∈ cal → C w') ∧ wpT P l Q C cal t a' w' | e => Q e a' w') (zAb l [k]) a w
 | .fork s t, a, w => wpT P l Q C cal s a w ∧ wpT P l Q C cal t a w
theorem zKr {l : List Oper} {cal : List Nat} : ∀ (t : OT) (n : Nat) (listed : Array Bool) (a : Act) (w : World), t.depth ≤ n → t.even = true →
    (t.kids md l.toArray listed = true → wpT P l Q C cal t a w → ∀ i ∈ t.keys, wpOp P l.toArray Q i (fun a' w' => (i ∈ cal → C w') ∧ wpS P md l.toArray Q C cal (t.depth - 1) (listed.setIfInBounds i true) a' w') a w) ∧
    (t.ok md l.toArray listed = true → wpT P l Q C cal t a w → wpS P md l.toArray Q C cal t.depth listed a w) := by
 intro t
 induction t with
 | done =>
  intro n listed a w _ _
  exact ⟨(fun _ _ i hi => by cases hi), fun h hw => ⟨by rw [OT.ok_done] at h; simpa using h, hw⟩⟩
 | next k t ih =>
  intro n listed a w hn he
  have hk : (OT.next k t).kids md l.toArray listed = true → wpT P l Q C cal (.next k t) a w → ∀ i ∈ (OT.next k t).keys, wpOp P l.toArray Q i (fun a' w' => (i ∈ cal → C w') ∧ wpS P md l.toArray Q C cal ((OT.next k t).depth - 1) (listed.setIfInBounds i true) a' w') a w := by
   intro h hw i hi
   simp only [OT.keys, List.mem_singleton] at hi
   subst hi
   simp only [OT.kids_next, Bool.and_eq_true] at h
   obtain ⟨o, ho⟩ := Option.isSome_iff_exists.1 h.1
   simp only [wpT] at hw
   rw [zIs [] ho] at hw
   exact wpOp_mono (fun a' w' h' => ⟨h'.1, (ih t.depth _ a' w' (Nat.le_refl _) he).2 h.2 h'.2⟩) (zId ho hw)
  refine ⟨hk, fun h hw => ?_⟩
  simp only [OT.ok_next, Bool.and_eq_true, decide_eq_true_eq] at h
  refine ⟨fun h0 => (by rw [h.1] at h0; cases h0), fun i hi => ?_⟩
  rw [h.1] at hi
  exact hk h.2 hw i hi
 | fork s t ihs iht =>
  intro n listed a w hn he
  simp only [OT.even, Bool.and_eq_true, decide_eq_true_eq] at he
  have hk : (OT.fork s t).kids md l.toArray listed = true → wpT P l Q C cal (.fork s t) a w → ∀ i ∈ (OT.fork s t).keys, wpOp P l.toArray Q i (fun a' w' => (i ∈ cal → C w') ∧ wpS P md l.toArray Q C cal ((OT.fork s t).depth - 1) (listed.setIfInBounds i true) a' w') a w := by
   intro h hw i hi
   simp only [OT.kids_fork, Bool.and_eq_true] at h
   simp only [wpT] at hw
   rcases List.mem_append.1 hi with hi | hi
   ·exact (ihs s.depth listed a w (Nat.le_refl _) he.1.1).1 h.1 hw.1 i hi
   ·have h2 := (iht t.depth listed a w (Nat.le_refl _) he.1.2).1 h.2 hw.2 i hi
    rw [← he.2] at h2
    exact h2
  refine ⟨hk, fun h hw => ?_⟩
  simp only [OT.ok_fork, Bool.and_eq_true, decide_eq_true_eq] at h
  obtain ⟨⟨⟨hr, hne⟩, h1⟩, h2⟩ := h
  have hpos : ∀ (t : OT), t.keys ≠ [] → t.even = true → 0 < t.depth := by
   intro t
   induction t with
   | done => intro h; exact absurd rfl h
   | next k t _ => intro _ _; simp [OT.depth]
   | fork a b iha ihb =>
    intro h he
    simp only [OT.even, Bool.and_eq_true, decide_eq_true_eq] at he
    simp only [OT.depth]
    by_cases ha : a.keys = []
    ·rw [he.2]
     exact ihb (fun hb => h (by simp [OT.keys, ha, hb])) he.1.2
    ·exact iha ha he.1.1
  have hd : 0 < (OT.fork s t).depth := hpos (.fork s t) (fun e => by simp only [OT.keys] at e; rw [e] at hne; simp at hne) (by simp [OT.even, he])
  obtain ⟨d, hd2⟩ : ∃ d, (OT.fork s t).depth = d + 1 := ⟨(OT.fork s t).depth - 1, by omega⟩
  rw [hd2]
  refine ⟨fun h0 => (by rw [hr] at h0; rw [h0] at hne; simp at hne), fun i hi => ?_⟩
  rw [hr] at hi
  have h3 := hk (by rw [OT.kids_fork, h1, h2]; rfl) hw i hi
  rw [hd2] at h3
  exact h3
def treeB (md : Region.Mode) (ops : Array Oper) (z hb al : List Nat) (u : Nat) (tl : List Nat) (t : OT) : Bool :=
 Region.noSelect ops && zGd md ops u (hb ++ al) && zHc md ops u tl &&
  (hb ++ al).all (fun i => !(u :: tl).contains i) && (u :: tl).all (fun i => decide (i < ops.size)) && z.all (fun i => decide (i < ops.size)) &&
  decide (z.length + (hb.length + t.depth) = ops.size) && t.even && (List.range ops.size).all (fun j => z.contains j || (hb ++ al).contains j || (u :: tl).contains j) &&
  zBy md ops (u :: tl) z (Array.replicate ops.size false) && hbBy md ops hb (zBx (Array.replicate ops.size false) z) && t.ok md ops (zBx (zBx (Array.replicate ops.size false) z) hb)
theorem zLl {id : Nat} {a : Act} {w : World} {l : List Oper} (z hb al : List Nat) (u : Nat) (tl : List Nat) (t : OT) (hm : P.follows .mixedOrders = true) (hB : treeB .any l.toArray z hb al u tl t = true) (hQ : ∀ c a d v w, Q (.panic c) (a.put d v) w → Q (.panic c) a w) (hC : C { w with drawn := w.drawn + 1 })
    (h : wpQuiet P l.toArray (fun _ => True) (wpQuiet P l.toArray C (fun a' => wpT P l Q C (hb ++ al) t a' { w with drawn := w.drawn + 1 }) (zAb l hb)) (zAb l z) a) : (Code.region id l.toArray true).wp P Q a w := by
 simp only [treeB, Bool.and_eq_true, decide_eq_true_eq, List.all_eq_true] at hB
 obtain ⟨⟨⟨⟨⟨⟨⟨⟨⟨⟨⟨hsel, hs1⟩, hc1⟩, hd1⟩, hlt⟩, hzlt⟩, hlen⟩, hev⟩, hcov⟩, hz⟩, hhb⟩, htree⟩ := hB
 have hdis : ∀ k ∈ u :: tl, k ∉ hb ++ al := fun k hk hc => by have := hd1 k hc; simp only [Bool.not_eq_true', List.contains_eq_mem, decide_eq_false_iff_not] at this; exact this hk
 have inv0 : HeadBy .any l.toArray (u :: tl) (Array.replicate l.toArray.size false) :=
  ⟨by simp, fun j oj _ hl => (by rw [getD_replicate_false] at hl; cases hl), fun x hx => getD_in (by have := hlt x hx; simpa using this) (getD_replicate_false _ _)⟩
 have inv1 := HeadBy.setAll z _ inv0 hz
 have hI1 : ∀ listed j, (HeadBy .any l.toArray (u :: tl) listed ∧ ∀ k ∈ z, listed.getD k false = true) → j ∈ Region.ready .any l.toArray listed → j ∈ hb ++ al → (HeadBy .any l.toArray (u :: tl) (listed.setIfInBounds j true) ∧ ∀ k ∈ z, (listed.setIfInBounds j true).getD k false = true) :=
  fun listed j h hj hc => ⟨h.1.set hj (fun hx => hdis j hx hc), fun k hk => getD_set_true (h.2 k hk)⟩
 have hw1 : ∀ i, i ∈ hb ++ al → ∀ listed j, (HeadBy .any l.toArray (u :: tl) listed ∧ ∀ k ∈ z, listed.getD k false = true) → listed.getD i true = false → j ∈ Region.ready .any l.toArray listed → j ∈ hb ++ al := by
  intro i hi listed j hI hun hj
  obtain ⟨hjun, oj, hoj, _⟩ := mem_ready.1 hj
  have hjs : j < l.toArray.size := (Array.getElem?_eq_some_iff.1 hoj).1
  have hcj := hcov j (List.mem_range.2 hjs)
  simp only [Bool.or_eq_true, List.contains_eq_mem, decide_eq_true_eq] at hcj
  rcases hcj with (h1 | h1) | h1
  ·have h2 := hI.2 j h1
   rw [getD_both hjun] at h2
   cases h2
  ·exact h1
  ·exfalso
   rcases List.mem_cons.1 h1 with rfl | h2
   ·exact zFx hI.1 _ hs1 i hi hun hj
   ·exact zGo tl u hc1 hI.1.tail j h2 hj
 refine wp_region_any hm ?_
 suffices H2 : wpAny P .any l.toArray Q (z.length + (hb.length + t.depth)) (Array.replicate l.toArray.size false) a { w with drawn := w.drawn + 1 } by rw [hlen] at H2; exact H2
 refine zJd hsel hQ z _ a hz h fun a' h' => zEn (C := C) (cal := hb ++ al) _ _ _ _ ?_
 refine zFq hsel hQ (fun listed => HeadBy .any l.toArray (u :: tl) listed ∧ ∀ k ∈ z, listed.getD k false = true) hI1 hw1 hC hb _ a' ⟨inv1, fun k hk => zKs z _ k (by have := hzlt k hk; simpa using this) (.inl hk)⟩ (fun i hi => by simp [hi]) hhb h' ?_
 intro a2 _ h2
 exact (zKr t t.depth _ a2 _ (Nat.le_refl _) hev).2 htree h2
theorem zHu {id : Nat} {a : Act} {w : World} {l : List Oper} (z hb al : List Nat) (u : Nat) (tl : List Nat) (t : OT) (hm : P.follows .mixedOrders = true) (hB : treeB .any l.toArray z hb al u tl t = true) (hQ : ∀ c a d v w, Q (.panic c) (a.put d v) w → Q (.panic c) a w)
    (h : wpQuiet P l.toArray (fun _ => True) (wpQuiet P l.toArray (fun w' => ∃ n : Ext w, w' = n.W) (fun a' => wpT P l Q (fun w' => ∃ n : Ext w, w' = n.W) (hb ++ al) t a' w.drew) (zAb l hb)) (zAb l z) a) : (Code.region id l.toArray true).wp P Q a w :=
 zLl z hb al u tl t hm hB hQ ⟨⟨w.drew, (Below.refl _ w).drew⟩, rfl⟩ h
theorem zAm {l : List Oper} {cal : List Nat} {s t : OT} {a : Act} {w : World} (h1 : wpT P l Q C cal s a w) (h2 : wpT P l Q C cal t a w) : wpT P l Q C cal (.fork s t) a w := ⟨h1, h2⟩
theorem zBg {l : List Oper} {cal : List Nat} {a : Act} {w : World} (h : Q .normal a w) : wpT P l Q C cal .done a w := h
theorem zAc {l : List Oper} {cal : List Nat} {k : Nat} {t : OT} {a : Act} {w : World}
    (h : ∀ K : Act → World → Prop, (∀ a' w', (k ∈ cal → C w') → wpT P l Q C cal t a' w' → K a' w') → wpList P l.toArray (fun e a' w' => match e with | .normal => K a' w' | e => Q e a' w') (zAb l [k]) a w) : wpT P l Q C cal (.next k t) a w :=
 h _ fun _ _ h1 h2 => ⟨h1, h2⟩
end
end
section
open Go.RowKit
section
variable {P : Program} {Q : Exit → Act → World → Prop} {C : World → Prop}
def treeU (md : Region.Mode) (ops : Array Oper) (z hb al us : List Nat) (t : OT) : Bool :=
 Region.noSelect ops && us.all (fun u => zGd md ops u (hb ++ al)) &&
  (hb ++ al).all (fun i => !us.contains i) && us.all (fun i => decide (i < ops.size)) && z.all (fun i => decide (i < ops.size)) &&
  decide (z.length + (hb.length + t.depth) = ops.size) && t.even && (List.range ops.size).all (fun j => z.contains j || (hb ++ al).contains j || us.contains j) &&
  zBy md ops us z (Array.replicate ops.size false) && hbBy md ops hb (zBx (Array.replicate ops.size false) z) && t.ok md ops (zBx (zBx (Array.replicate ops.size false) z) hb)
theorem zPz {id : Nat} {a : Act} {w : World} {l : List Oper} (z hb al us : List Nat) (t : OT) (hm : P.follows .mixedOrders = true) (hB : treeU .any l.toArray z hb al us t = true) (hQ : ∀ c a d v w, Q (.panic c) (a.put d v) w → Q (.panic c) a w) (hC : C { w with drawn := w.drawn + 1 })
    (h : wpQuiet P l.toArray (fun _ => True) (wpQuiet P l.toArray C (fun a' => wpT P l Q C (hb ++ al) t a' { w with drawn := w.drawn + 1 }) (zAb l hb)) (zAb l z) a) : (Code.region id l.toArray true).wp P Q a w := by
 simp only [treeU, Bool.and_eq_true, decide_eq_true_eq, List.all_eq_true] at hB
 obtain ⟨⟨⟨⟨⟨⟨⟨⟨⟨⟨hsel, hs1⟩, hd1⟩, hlt⟩, hzlt⟩, hlen⟩, hev⟩, hcov⟩, hz⟩, hhb⟩, htree⟩ := hB
 have hdis : ∀ k ∈ us, k ∉ hb ++ al := fun k hk hc => by have := hd1 k hc; simp only [Bool.not_eq_true', List.contains_eq_mem, decide_eq_false_iff_not] at this; exact this hk
 have inv0 : HeadBy .any l.toArray us (Array.replicate l.toArray.size false) :=
  ⟨by simp, fun j oj _ hl => (by rw [getD_replicate_false] at hl; cases hl), fun x hx => getD_in (by have := hlt x hx; simpa using this) (getD_replicate_false _ _)⟩
 have inv1 := HeadBy.setAll z _ inv0 hz
 have hI1 : ∀ listed j, (HeadBy .any l.toArray us listed ∧ ∀ k ∈ z, listed.getD k false = true) → j ∈ Region.ready .any l.toArray listed → j ∈ hb ++ al → (HeadBy .any l.toArray us (listed.setIfInBounds j true) ∧ ∀ k ∈ z, (listed.setIfInBounds j true).getD k false = true) :=
  fun listed j h hj hc => ⟨h.1.set hj (fun hx => hdis j hx hc), fun k hk => getD_set_true (h.2 k hk)⟩
 have hw1 : ∀ i, i ∈ hb ++ al → ∀ listed j, (HeadBy .any l.toArray us listed ∧ ∀ k ∈ z, listed.getD k false = true) → listed.getD i true = false → j ∈ Region.ready .any l.toArray listed → j ∈ hb ++ al := by
  intro i hi listed j hI hun hj
  obtain ⟨hjun, oj, hoj, _⟩ := mem_ready.1 hj
  have hjs : j < l.toArray.size := (Array.getElem?_eq_some_iff.1 hoj).1
  have hcj := hcov j (List.mem_range.2 hjs)
  simp only [Bool.or_eq_true, List.contains_eq_mem, decide_eq_true_eq] at hcj
  rcases hcj with (h1 | h1) | h1
  ·have h2 := hI.2 j h1
   rw [getD_both hjun] at h2
   cases h2
  ·exact h1
  ·exact absurd hj (zFx (tl := []) ⟨hI.1.size, hI.1.closed, fun x hx => by rw [List.mem_singleton] at hx; subst hx; exact hI.1.tail _ h1⟩ _ (hs1 j h1) i hi hun)
 refine wp_region_any hm ?_
 suffices H2 : wpAny P .any l.toArray Q (z.length + (hb.length + t.depth)) (Array.replicate l.toArray.size false) a { w with drawn := w.drawn + 1 } by rw [hlen] at H2; exact H2
 refine zJd hsel hQ z _ a hz h fun a' h' => zEn (C := C) (cal := hb ++ al) _ _ _ _ ?_
 refine zFq hsel hQ (fun listed => HeadBy .any l.toArray us listed ∧ ∀ k ∈ z, listed.getD k false = true) hI1 hw1 hC hb _ a' ⟨inv1, fun k hk => zKs z _ k (by have := hzlt k hk; simpa using this) (.inl hk)⟩ (fun i hi => by simp [hi]) hhb h' ?_
 intro a2 _ h2
 exact (zKr t t.depth _ a2 _ (Nat.le_refl _) hev).2 htree h2
theorem zLq {id : Nat} {a : Act} {w : World} {l : List Oper} (z hb al us : List Nat) (t : OT) (hm : P.follows .mixedOrders = true) (hB : treeU .any l.toArray z hb al us t = true) (hQ : ∀ c a d v w, Q (.panic c) (a.put d v) w → Q (.panic c) a w)
    (h : wpQuiet P l.toArray (fun _ => True) (wpQuiet P l.toArray (fun w' => ∃ n : Ext w, w' = n.W) (fun a' => wpT P l Q (fun w' => ∃ n : Ext w, w' = n.W) (hb ++ al) t a' w.drew) (zAb l hb)) (zAb l z) a) : (Code.region id l.toArray true).wp P Q a w :=
 zPz z hb al us t hm hB hQ ⟨⟨w.drew, (Below.refl _ w).drew⟩, rfl⟩ h
end
end
section
open Go.RowKit
section
variable {P : Program} {Q : Exit → Act → World → Prop} {C : World → Prop}
def zWh (md : Region.Mode) (ops : Array Oper) (hd al : List Nat) (t : OT) : Bool :=
 Region.noSelect ops && decide (hd.length + t.depth = ops.size) && t.even && (List.range ops.size).all (fun j => (hd ++ al).contains j) && hbBy md ops hd (Array.replicate ops.size false) && t.ok md ops (zBx (Array.replicate ops.size false) hd)
theorem zFa {id : Nat} {a : Act} {w : World} {l : List Oper} (hd al : List Nat) (t : OT) (hm : P.follows .mixedOrders = true) (hB : zWh .any l.toArray hd al t = true) (hQ : ∀ c a d v w, Q (.panic c) (a.put d v) w → Q (.panic c) a w) (hC : C w.drew)
    (h : wpQuiet P l.toArray C (fun a' => wpT P l Q C (hd ++ al) t a' w.drew) (zAb l hd) a) : (Code.region id l.toArray true).wp P Q a w := by
 simp only [zWh, Bool.and_eq_true, decide_eq_true_eq, List.all_eq_true] at hB
 obtain ⟨⟨⟨⟨⟨hsel, hlen⟩, hev⟩, hcov⟩, hhb⟩, htree⟩ := hB
 refine wp_region_any hm ?_
 suffices H2 : wpAny P .any l.toArray Q (hd.length + t.depth) (Array.replicate l.toArray.size false) a { w with drawn := w.drawn + 1 } by rw [hlen] at H2; exact H2
 refine zEn (C := C) (cal := hd ++ al) _ _ _ _ ?_
 have hall : ∀ listed j, j ∈ Region.ready .any l.toArray listed → j ∈ hd ++ al := fun listed j hj => by
  obtain ⟨_, oj, hoj, _⟩ := mem_ready.1 hj
  have hjs : j < l.toArray.size := (Array.getElem?_eq_some_iff.1 hoj).1
  have := hcov j (List.mem_range.2 hjs)
  simpa using this
 refine zFq (C := C) hsel hQ (fun _ => True) (fun _ _ _ _ _ => trivial) (fun i _ listed j _ _ hj => hall listed j hj) hC hd _ a trivial (fun i hi => by simp [hi]) hhb h ?_
 intro a' _ h2
 exact (zKr t t.depth _ a' _ (Nat.le_refl _) hev).2 htree h2
theorem zBt {id : Nat} {a : Act} {w : World} {l : List Oper} (hd al : List Nat) (t : OT) (hm : P.follows .mixedOrders = true) (hB : zWh .any l.toArray hd al t = true) (hQ : ∀ c a d v w, Q (.panic c) (a.put d v) w → Q (.panic c) a w)
    (h : wpQuiet P l.toArray (fun w' => ∃ n : Ext w, w' = n.W) (fun a' => wpT P l Q (fun w' => ∃ n : Ext w, w' = n.W) (hd ++ al) t a' w.drew) (zAb l hd) a) : (Code.region id l.toArray true).wp P Q a w :=
 zFa hd al t hm hB hQ ⟨⟨w.drew, (Below.refl _ w).drew⟩, rfl⟩ h
end
end
section
open Go.RowKit
def Shf.cells (s : Shf) (v : Value) : List Value := [.int .i64 s.free, .int .i64 s.used, .int .i64 s.made, v]
structure ShAt (w : World) (base g o : Nat) (cs : Array Value) (s : Shf) (v : Value) : Prop where
 blk : Blk w g 84 cs
 has : Has cs o (s.cells v)
 own : w.ownsRow base 161 3 v s.opn.length (s.opn.flatMap Hd.cells)
section
variable {w w' : World} {base g o : Nat} {cs : Array Value} {s : Shf} {v : Value}
theorem ShAt.c0 (h : ShAt w base g o cs s v) : w.cell? ⟨g, o, none⟩ = some (.int .i64 s.free) := h.blk.at_ h.has 0 rfl
theorem ShAt.c1 (h : ShAt w base g o cs s v) : w.cell? ⟨g, o + 1, none⟩ = some (.int .i64 s.used) := h.blk.at_ h.has 1 rfl
theorem ShAt.c2 (h : ShAt w base g o cs s v) : w.cell? ⟨g, o + 2, none⟩ = some (.int .i64 s.made) := h.blk.at_ h.has 2 rfl
theorem ShAt.c3 (h : ShAt w base g o cs s v) : w.cell? ⟨g, o + 3, none⟩ = some v := h.blk.at_ h.has 3 rfl
theorem ShAt.fr (h : ShAt w base g o cs s v) (i : Nat) : w.frozen? ⟨g, i, none⟩ = false := h.blk.frozen i
theorem ShAt.ne (h : ShAt w base g o cs s v) : v.ownBlock ≠ some g := zAe h.own h.blk (by decide)
theorem ShAt.only {D : Nat → Prop} (h : ShAt w base g o cs s v) (ho : Only D w w') (h1 : ¬ D g) (h2 : ∀ k, v.ownBlock = some k → ¬ D k) : ShAt w' base g o cs s v :=
 ⟨h.blk.only ho h1, h.has, zAk h.own ho h2⟩
theorem ShAt.calm (h : ShAt w base g o cs s v) (hb : Below w.heap.size w w') : ShAt w' base g o cs s v :=
 h.only (D := fun k => w.heap.size ≤ k) (Only.of_below hb fun _ _ h => h) (by have := h.blk.lt; omega) (fun k hk => by have := (h.own.lt k hk).2; omega)
theorem ShAt.free_ (h : ShAt w base g o cs s v) (x : Int) : ShAt (w.setCell ⟨g, o, none⟩ (.int .i64 x)) base g o (putAt cs o (({ s with free := x } : Shf).cells v)) { s with free := x } v :=
 ⟨h.blk.put_ (j := 0) h.has (by simp [Shf.cells]) _, Has.putAt _ _ _ (h.has.le (by simp [Shf.cells])), World.ownsRow.kept h.own (zGi (World.grownBy.refl w (some g)) (.inl rfl) _) (.inr h.ne)⟩
theorem ShAt.used_ (h : ShAt w base g o cs s v) (x : Int) : ShAt (w.setCell ⟨g, o + 1, none⟩ (.int .i64 x)) base g o (putAt cs o (({ s with used := x } : Shf).cells v)) { s with used := x } v :=
 ⟨h.blk.put_ (j := 1) h.has (by simp [Shf.cells]) _, Has.putAt _ _ _ (h.has.le (by simp [Shf.cells])), World.ownsRow.kept h.own (zGi (World.grownBy.refl w (some g)) (.inl rfl) _) (.inr h.ne)⟩
theorem ShAt.made_ (h : ShAt w base g o cs s v) (x : Int) : ShAt (w.setCell ⟨g, o + 2, none⟩ (.int .i64 x)) base g o (putAt cs o (({ s with made := x } : Shf).cells v)) { s with made := x } v :=
 ⟨h.blk.put_ (j := 2) h.has (by simp [Shf.cells]) _, Has.putAt _ _ _ (h.has.le (by simp [Shf.cells])), World.ownsRow.kept h.own (zGi (World.grownBy.refl w (some g)) (.inl rfl) _) (.inr h.ne)⟩
theorem ShAt.open_ {w1 : World} {l : List Hd} {u : Value} (h : ShAt w base g o cs s v) (hb : Blk w1 g 84 cs) (hown : w1.ownsRow base 161 3 u l.length (l.flatMap Hd.cells)) :
    ShAt (w1.setCell ⟨g, o + 3, none⟩ u) base g o (putAt cs o (({ s with opn := l } : Shf).cells u)) { s with opn := l } u :=
 ⟨hb.put_ (j := 3) h.has (by simp [Shf.cells]) _, Has.putAt _ _ _ (h.has.le (by simp [Shf.cells])), World.ownsRow.kept hown (zGi (World.grownBy.refl w1 (some g)) (.inl rfl) _) (.inr (zAe hown hb (by decide)))⟩
end
theorem yBl (l : List Hd) (k : Nat) (h : Hd) (hk : l[k]? = some h) : zAq (l.take (k + 1)) = zAq (l.take k) + h.count := by
 rw [zBp l k h hk, zHp]; simp [zAq]
theorem zXi {l : List Hd} (h : ∀ x ∈ l, 0 ≤ x.count ∧ x.count ≤ 1048576) : 0 ≤ zAq l ∧ zAq l ≤ 1048576 * l.length := by
 induction l with
 | nil => simp [zAq]
 | cons x l ih => have := h x (by simp); have := ih (fun y hy => h y (by simp [hy])); simp [zAq]; omega
theorem zIx (base g o : Nat) (cs : Array Value) (s : Shf) (v : Value) (w : World) (h : ShAt w base g o cs s v) (hl : s.opn.length ≤ 4) (hc : ∀ x ∈ s.opn, 0 ≤ x.count ∧ x.count ≤ 1048576) :
    Calls Tryz.prog 49 #[.pointer (some ⟨g, o, none⟩)] w fun e w' => e = .returned (.int .i64 (zAq s.opn)) ∧ Below w.heap.size w w' := by
 obtain ⟨A, c, rfl, hnc⟩ := zAf h.own
 have c3 := h.c3
 have HR := hide (Reads.of_own h.own)
 have HC := hide hc
 obtain ⟨n, hn⟩ : ∃ n, n = s.opn.length := ⟨_, rfl⟩
 rw [← hn] at c3 hl hnc HR
 have HN := hide hn.symm
 clear h hn hc
 go_enter Tryz.func49, Tryz.ntmps49
 go_wp2_with fail
 go_loopw [2, 10] (fun x i wr => ∃ k : Nat, k ≤ n ∧ i = .int .i64 k ∧ x = .int .i64 (zAq (s.opn.take k)) ∧ Below w.heap.size w wr) (fun _ i _ => n - (intOf i).toNat)
 case atStart => exact ⟨0, Nat.zero_le _, rfl, rfl, Below.refl _ _⟩
 case round =>
  obtain ⟨k, hk, rfl, rfl, hb⟩ := hrel
  by_cases hlt : k < n
  ·obtain ⟨b, p, x, rfl, _, hx, hcx⟩ := zCf Hd.cells_len (by omega) ((zAa HR).below hb) hlt (zAa HN)
   have e0 := hcx 0 _ rfl
   have e1 := hcx 1 _ rfl
   have e2 := hcx 2 _ rfl
   simp only [Nat.add_zero] at e0
   have hkn : (k : Int) < (n : Int) := by omega
   have HS := hide (yBl s.opn k x hx)
   have hbd := zXi (l := s.opn.take k) fun y hy => zAa HC y (List.mem_of_mem_take hy)
   have hlk : ((s.opn.take k).length : Int) ≤ 4 := by have : (s.opn.take k).length ≤ k := List.length_take_le _ _; omega
   have hxb := zAa HC x (List.mem_of_getElem? hx)
   obtain ⟨hb1, hb2⟩ := hbd
   obtain ⟨hx1, hx2⟩ := hxb
   have hb3 : zAq (s.opn.take k) ≤ 4194304 := by omega
   generalize zAq (s.opn.take k) = q at *
   clear hx hcx hb2 hlk
   go_wp2_with fail
   go_roundw
   case rel => exact ⟨k + 1, by omega, by go_num, by rw [zAa HS], hb.alloc hb.size _⟩
   case measure => simp [intOf]; omega
  ·obtain rfl : k = n := by omega
   go_wp2_with fail
   go_ret
   exact ⟨zBn (by rw [List.take_of_length_le (by rw [zAa HN]; exact Nat.le_refl _)]), hb⟩
theorem zLi (base g o : Nat) (cs : Array Value) (s : Shf) (v : Value) (w : World) (h : ShAt w base g o cs s v) (hl : s.opn.length ≤ 4) (hc : ∀ x ∈ s.opn, 0 ≤ x.count ∧ x.count ≤ 1048576) :
    Calls Tryz.prog 27 #[.pointer (some ⟨g, o, none⟩)] w fun e w' => e = .returned (s.stock 0 0).val ∧ Below w.heap.size w w' := by
 obtain ⟨wx, hwx⟩ : ∃ wx, wx = w.alloc (.cells #[.int .i64 0, .int .i64 0, .int .i64 0, .int .i64 0, .int .i64 0] 40) := ⟨_, rfl⟩
 have hbx : Below w.heap.size w wx := by rw [hwx]; exact (Below.refl _ _).alloc (Nat.le_refl _) _
 have hsx : wx.heap.size = w.heap.size + 1 := by rw [hwx]; simp
 have hx := h.calm hbx
 have c0 := fun n : Ext wx => n.cell hx.c0
 have c1 := fun n : Ext wx => n.cell hx.c1
 have HH := hide (fun W (hW : Below wx.heap.size wx W) => zIx base g o cs s v W (hx.calm hW) hl hc)
 have hk : Blk wx w.heap.size 40 #[.int .i64 0, .int .i64 0, .int .i64 0, .int .i64 0, .int .i64 0] := by rw [hwx]; exact Blk.new w 40 _
 have HK := hide hk
 have HWX := hide hwx
 have HBX := hide hbx
 have HSX := hide hsx
 clear hx h hl hc hwx hbx hsx hk
 go_enter Tryz.func27, Tryz.ntmps27
 go_wp2_with fail
 rw [← zAa HWX]
 refine zCy 11 (by kernel_rfl) (by kernel_rfl) ?_
 simp only [List.take_succ_cons, List.take_zero, List.drop_succ_cons, List.drop_zero]
 repeat (go_big_quiet_step ((go_at_call 49; exact zDi (zAa HH _ (Ext.h _)))))
 refine wpQuiet_nil ?_
 rintro _ ⟨nq, rfl⟩
 have HK2 := hide ((zAa HK).below nq.h (Blk.lt (zAa HK)))
 have d0 := (zAa HK2).cell 0
 have d1 := (zAa HK2).cell 1
 have d2 := (zAa HK2).cell 2
 have d3 := (zAa HK2).cell 3
 have d4 := (zAa HK2).cell 4
 have f0 := (zAa HK2).frozen 0
 have f1 := (zAa HK2).frozen 1
 have f2 := (zAa HK2).frozen 2
 have f3 := (zAa HK2).frozen 3
 have f4 := (zAa HK2).frozen 4
 go_wp2_with fail
 refine bodyPost_ret (v := (s.stock 0 0).val) (by simp [results, Tryz.results27, go_sem, d0, d1, d2, d3, d4]; rfl) rfl ⟨rfl, ?_⟩
 exact (((((((zAa HBX).trans (nq.h.mono (zAa HBX).size)).setCell (Nat.le_refl _) _).setCell (Nat.le_refl _) _).setCell (Nat.le_refl _) _).setCell (Nat.le_refl _) _).setCell (Nat.le_refl _) _)
end
section
open Go.RowKit
theorem zKg (p : Value) (g a b : Nat) (x n : Int) (w : World) (ha : w.cell? ⟨g, a, none⟩ = some (.int .i64 x)) (hlt : x < n) :
    Calls Tryz.prog 119 #[p, .pointer (some ⟨g, a, none⟩), .pointer (some ⟨g, b, none⟩), .int .i64 n] w fun e w' => e = .returned (.int .i64 9) ∧ w = w' := by
 go_enter Tryz.func119, Tryz.ntmps119
 go_wp2_with fail
 go_ret
 exact ⟨rfl, rfl⟩
theorem zMp (p : Value) (g a b : Nat) (x y n : Int) (w : World) (ha : w.cell? ⟨g, a, none⟩ = some (.int .i64 x)) (hb : w.cell? ⟨g, b, none⟩ = some (.int .i64 y)) (fa : w.frozen? ⟨g, a, none⟩ = false) (fb : w.frozen? ⟨g, b, none⟩ = false)
    (hab : a ≠ b) (hlt : n ≤ x) (h0 : 0 ≤ n) (hx : x ≤ 1048576) (hy0 : 0 ≤ y) (hy : y ≤ 1048576) :
    Calls Tryz.prog 119 #[p, .pointer (some ⟨g, a, none⟩), .pointer (some ⟨g, b, none⟩), .int .i64 n] w fun e w' => e = .returned (.int .i64 0) ∧ (w.setCell ⟨g, a, none⟩ (.int .i64 (x - n))).setCell ⟨g, b, none⟩ (.int .i64 (y + n)) = w' := by
 have hne : (⟨g, a, none⟩ : Addr) ≠ ⟨g, b, none⟩ := fun e => hab (by injection e)
 have hb2 : (w.setCell ⟨g, a, none⟩ (.int .i64 (x - n))).cell? ⟨g, b, none⟩ = some (.int .i64 y) := (World.cell?_setCell_other w ⟨g, a, none⟩ ⟨g, b, none⟩ _ hne).trans hb
 have hge : ¬ x < n := by omega
 clear hab hne
 go_enter Tryz.func119, Tryz.ntmps119
 go_wp2_with fail
 go_ret
 exact ⟨rfl, rfl⟩
theorem yCb : (Tryz.prog.info? 161).map (fun i => (i.zero, i.size, i.bytes)) = some (some (.agg #[.int .i64 0, .int .i64 0, .int .i64 0]), 3, 24) := by kernel_rfl
theorem zNm : ∃ i, Tryz.prog.info? 161 = some i ∧ i.zero = some (.agg #[.int .i64 0, .int .i64 0, .int .i64 0]) ∧ i.size = 3 ∧ i.bytes = 24 := by
 have h := yCb
 cases hi : Tryz.prog.info? 161 with
 | none => rw [hi] at h; simp at h
 | some i => rw [hi] at h; simp at h; exact ⟨i, rfl, h.1, h.2.1, h.2.2⟩
def zDy (base g o : Nat) (cs : Array Value) (v : Value) (w : World) (r : Shf × Int × Int) (e : Ending) (w' : World) : Prop :=
 ∃ v', e = .returned (.tuple #[.int .i64 r.2.1, .int .i64 r.2.2]) ∧ ShAt w' base g o (putAt cs o (r.1.cells v')) r.1 v' ∧ Only (fun k => k = g ∨ v.ownBlock = some k) w w' ∧ (∀ k, v'.ownBlock = some k → v.ownBlock = some k ∨ w.heap.size ≤ k)
theorem zBw {base g o : Nat} {cs : Array Value} {s : Shf} {v : Value} {w w' : World} {a b : Int} (h : ShAt w' base g o cs s v) (hb : Below w.heap.size w w') : zDy base g o cs v w (s, a, b) (.returned (.tuple #[.int .i64 a, .int .i64 b])) w' :=
 ⟨v, rfl, by rw [zMf cs o _ h.has]; exact h, Only.of_below hb fun x hx hB => by omega, fun k hk => .inl hk⟩
def zHi (s : Shf) (o : Ordr) : Shf × Int × Int :=
 if o.life < 1 ∨ 20 < o.life then (s, 0, 2) else if s.opn.length = 4 then (s, 0, 8) else if s.free < o.count then (s, 0, 9)
 else (⟨s.free - o.count, s.used, s.made + 1, s.opn ++ [⟨s.made + 1, o.count, o.life⟩]⟩, s.made + 1, 0)
set_option maxHeartbeats 1000000 in
theorem zTh (base g o : Nat) (cs : Array Value) (s : Shf) (v : Value) (w : World) (od : Ordr) (K : Int) (h : ShAt w base g o cs s v) (hs : s.ok K) (hK : K ≤ 1000000) (hc : 1 ≤ od.count) (hc2 : od.count ≤ 1048576) (hB : base ≤ w.heap.size) :
    Calls Tryz.prog 120 #[.pointer (some ⟨g, o, none⟩), od.val] w (zDy base g o cs v w (zHi s od)) := by
 obtain ⟨kind, n, life, id⟩ := od
 unfold Ordr.val
 dsimp only at hc hc2 ⊢
 obtain ⟨wx, hwx⟩ : ∃ wx, wx = w.alloc (.cells #[.int .i64 kind, .int .i64 n, .int .i64 life, .int .i64 id] 130) := ⟨_, rfl⟩
 have hbx : Below w.heap.size w wx := by rw [hwx]; exact (Below.refl _ _).alloc (Nat.le_refl _) _
 have hsx : wx.heap.size = w.heap.size + 1 := by rw [hwx]; simp
 have k0 : Blk wx w.heap.size 130 #[.int .i64 kind, .int .i64 n, .int .i64 life, .int .i64 id] := by rw [hwx]; exact Blk.new w 130 _
 have hx := h.calm hbx
 have q1 := k0.cell 1
 have q2 := k0.cell 2
 have c0 := hx.c0
 have c2 := hx.c2
 have c3 := hx.c3
 have f0 := hx.fr o
 have hf0 := hs.free0
 have hm0 := hs.made0
 have hmK := hs.madeK
 have hll := hs.len
 have hfr : s.free ≤ 1048576 := by
  have h1 := hs.all
  have h2 := hs.used0
  have h3 : 0 ≤ zAq s.opn := zGe fun x hx => by have := hs.each x hx; omega
  omega
 have HX := hide hx
 have HBX := hide hbx
 have HWX := hide hwx
 obtain ⟨A, c, rfl, hnc⟩ := zAf h.own
 have hgx : g < wx.heap.size := hx.blk.lt
 have hgw : g < w.heap.size := h.blk.lt
 have HK0 := hide k0
 have hne : g ≠ w.heap.size := by omega
 clear hx h hbx hs k0
 obtain ⟨m, hm⟩ : ∃ m, m = s.opn.length := ⟨_, rfl⟩
 have HM := hide hm
 rw [← hm] at c3 hll
 have q1a := q1
 have q2a := q2
 have c0a := c0
 have c2a := c2
 have c3a := c3
 rw [hwx] at q1a q2a c0a c2a c3a
 clear hwx hm
 by_cases h1 : life < 1 ∨ 20 < life
 ·have HF := hide (show zHi s ⟨kind, n, life, id⟩ = (s, 0, 2) by unfold zHi; rw [if_pos h1])
  by_cases h2 : life < 1
  ·clear h1
   go_enter Tryz.func120, Tryz.ntmps120
   go_wp2_with fail
   go_ret2
   rw [zAa HF, ← zAa HWX]
   exact zBw (zAa HX) (zAa HBX)
  ·have h3 : 20 < life := by omega
   have h2' : 1 ≤ life := by omega
   clear h1 h2
   go_enter Tryz.func120, Tryz.ntmps120
   go_wp2_with fail
   go_ret2
   rw [zAa HF, ← zAa HWX]
   exact zBw (zAa HX) (zAa HBX)
 have h1a : 1 ≤ life := by omega
 have h1b : life ≤ 20 := by omega
 by_cases h4 : m = 4
 ·have HF := hide (show zHi s ⟨kind, n, life, id⟩ = (s, 0, 8) by unfold zHi; rw [if_neg h1, if_pos (by rw [← zAa HM]; exact h4)])
  subst h4
  clear h1
  go_enter Tryz.func120, Tryz.ntmps120
  go_wp2_with fail
  go_ret2
  rw [zAa HF, ← zAa HWX]
  exact zBw (zAa HX) (zAa HBX)
 have h4' : ((m : Int) == 4) = false := by simp; omega
 have h4'' : (m == 4) = false := by simpa using h4
 by_cases h5 : s.free < n
 ·have HF := hide (show zHi s ⟨kind, n, life, id⟩ = (s, 0, 9) by unfold zHi; rw [if_neg h1, if_neg (by rw [← zAa HM]; exact h4), if_pos h5])
  have HBXn := hide (fun k => below_drewN (zAa HBX) k)
  clear h1 h4
  go_enter Tryz.func120, Tryz.ntmps120
  go_wp2_with fail
  rw [← zAa HWX]
  go_quiet (fail)
  go_wp2_with fail
  go_ret2
  rw [zAa HF]
  exact zBw ((zAa HX).calm (below_drewN (Below.refl _ _) nq)) (zAa HBXn nq)
 have HF := hide (show zHi s ⟨kind, n, life, id⟩ = (⟨s.free - n, s.used, s.made + 1, s.opn ++ [⟨s.made + 1, n, life⟩]⟩, s.made + 1, 0) by unfold zHi; rw [if_neg h1, if_neg (by rw [← zAa HM]; exact h4), if_neg h5])
 have h5' : n ≤ s.free := by omega
 clear h1 h4 h5
 go_enter Tryz.func120, Tryz.ntmps120
 go_wp2_with fail
 rw [← zAa HWX]
 go_quiet (fail)
 go_wp2_with fail
 obtain ⟨wn, hwn⟩ : ∃ wn, wn = wx.drewN nq := ⟨_, rfl⟩
 have hbn : Below wx.heap.size wx wn := by rw [hwn]; exact below_drewN (Below.refl _ _) nq
 have HBN := hide hbn
 have HXN := hide ((zAa HX).calm hbn)
 have k0n := (zAa HK0).below hbn (Blk.lt (zAa HK0))
 rw [← hwn]
 clear q1a q2a c0a c2a c3a c0 c2 c3 f0 q1 q2 hwn hbn
 have e0 := (zAa HXN).c0
 have e2 := (zAa HXN).c2
 have e3 := (zAa HXN).c3
 rw [← zAa HM] at e3
 have f0 := (zAa HXN).fr o
 have f2 := (zAa HXN).fr (o + 2)
 have p1 := k0n.cell 1
 have p2 := k0n.cell 2
 clear k0n
 refine zCo 9 (by kernel_rfl) (by kernel_rfl) ?_
 simp only [List.take_succ_cons, List.take_zero, List.drop_succ_cons, List.drop_zero]
 repeat (go_big_quiet_step (fail))
 refine wpQuiet_nil ?_
 rintro _ ⟨nq2, rfl⟩
 go_wp2_with fail
 clear e0 e2 e3 f0 f2 p1 p2
 obtain ⟨w2, hw2⟩ : ∃ w2, w2 = ((wn.drewN nq2).setCell ⟨g, o, none⟩ (.int .i64 (s.free - n))).setCell ⟨g, o + 2, none⟩ (.int .i64 (s.made + 1)) := ⟨_, rfl⟩
 rw [← hw2]
 have hx2 := ((ShAt.calm (zAa HXN) (below_drewN (Below.refl _ _) nq2)).free_ (s.free - n)).made_ (s.made + 1)
 rw [← hw2, zGb _ _ _ _ (by simp [Shf.cells])] at hx2
 have hO2 : Only (fun k => k = g) wn w2 := by rw [hw2]; exact Only.setCell (D := fun k => k = g) (Only.setCell (D := fun k => k = g) ((Only.refl _ wn).drewN nq2) (p := ⟨g, o, none⟩) (fun _ => rfl) _) (p := ⟨g, o + 2, none⟩) (fun _ => rfl) _
 have k02 := Blk.only ((zAa HK0).below (zAa HBN) (Blk.lt (zAa HK0))) hO2 (Ne.symm hne)
 have HO2 := hide hO2
 have HX2 := hide hx2
 have HOWN := hide (show w2.drew.ownsRow base 161 3 (.slice A s.opn.length c) s.opn.length (s.opn.flatMap Hd.cells) from hx2.own)
 have e2 := hx2.c2
 have e3 := hx2.c3
 rw [← zAa HM] at e3
 have p1 := k02.cell 1
 have p2 := k02.cell 2
 have hg2 : g < w2.heap.size := hx2.blk.lt
 have hB2 : base ≤ w2.heap.size := Nat.le_trans hB (Nat.le_trans (zAa HBX).size (Nat.le_trans (zAa HBN).size hO2.size))
 obtain ⟨i0, hi, hz0, hz1, hz2⟩ := zNm
 have hMb : (s.opn.length + 1) * 24 ≤ 140737488355328 := by rw [← zAa HM]; omega
 dsimp only at e2
 clear hw2 hx2 k02 hO2
 have ce2 := fun n : Ext w2 => n.cell e2
 have ce3 := fun n : Ext w2 => n.cell e3
 have cp1 := fun n : Ext w2 => n.cell p1
 have cp2 := fun n : Ext w2 => n.cell p2
 clear e2 e3 p1 p2
 refine zEp [0] [1, 2, 3, 4, 5, 6, 7, 8, 9, 10, 11, 12, 13] [] [14] 15 [16, 17, 18] (by kernel_rfl) (by kernel_rfl) (by intro c a d v w h; cases d <;> exact h) ?_
 simp only [zAb, List.map_cons, List.map_nil, List.getD_cons_zero, List.getD_cons_succ]
 repeat (go_big_quiet_step (fail))
 refine wpQuiet_nil ?_
 repeat (go_big_quiet_step (fail))
 refine wpQuiet_nil (wpQuiet_nil ?_)
 rintro _ ⟨nq3, rfl⟩
 simp only [wpAl]
 go_wp2_with fail
 refine ⟨⟨⟨_, nq3.h.alloc nq3.h.size _⟩, rfl⟩, ?_⟩
 have HX3 := hide (ShAt.calm (zAa HX2) nq3.h)
 have hs3 := nq3.h.size
 go_wp2_with (first
  | (at_builtin; (refine zAl _ rfl (.tmp 50) (.tmp 60) _ rfl base 161 i0 _ 3 24 Tryz.underlying82 hi hz0 hz1 hz2 rfl (by omega) (by omega) _ _ _ (zAa HX3).own (by rw [← zAa HM]; rfl) _ 1 _ rfl rfl rfl (by simp [Value.oneCell']) hMb (Nat.le_trans hB2 hs3) ?_); intro g4 cap4 w4 hg4 hown4 hbel4 hgr4 hat4; have hM4 := Blk.grown (zAa HX3).blk hgr4 (Ne.symm (zAa HX3).ne); have hu := hM4.at_ (zAa HX3).has 3 rfl; have hu2 := hM4.at_ (zAa HX3).has 2 rfl; have fu := hM4.frozen (o + 3); have HK4 := hide (And.intro hg4 (And.intro hown4 (And.intro hgr4 (And.intro hat4 hM4)))); clear hg4 hown4 hbel4 hgr4 hat4 hM4))
 go_ret2
 obtain ⟨hg4, hown4, hgr4, hat4, hM4⟩ := zAa HK4
 rw [zAa HF]
 have hfin := ShAt.open_ (l := s.opn ++ [⟨s.made + 1, n, life⟩]) (zAa HX3) hM4 (by rw [List.length_append, List.flatMap_append]; simpa [Hd.cells] using hown4)
 rw [zGb _ _ _ _ (by simp [Shf.cells])] at hfin
 refine ⟨_, rfl, hfin, ?_, fun k hk => ?_⟩
 ·have h1 : Only (fun k => k = g ∨ Value.ownBlock (.slice A s.opn.length c) = some k) w wx := Only.of_below (zAa HBX) fun x hx hB => by omega
  exact Only.setCell ((((h1.calm (zAa HBN)).trans (zAa HO2) (fun x _ h => .inl h)).calm nq3.h).grown hgr4 (fun x hx _ => .inr hx)) (fun _ => .inl rfl) _
 ·have hk' : g4 = k := by simpa [Value.ownBlock] using hk
  rcases hat4 with h1 | h1
  ·exact .inl (by rw [← hk', h1])
  ·right
   have := (zAa HBX).size
   have := (zAa HBN).size
   have := (zAa HO2).size
   omega
end
section
open Go.RowKit
theorem zUs : (Tryz.prog.info? 111).map (fun i => (i.zero, i.size, i.bytes)) = some (some (.agg #[.int .i64 0, .int .i64 0, .int .i64 0, .int .i64 0]), 4, 32) := by kernel_rfl
theorem zXz : ∃ i, Tryz.prog.info? 111 = some i ∧ i.zero = some (.agg #[.int .i64 0, .int .i64 0, .int .i64 0, .int .i64 0]) ∧ i.size = 4 ∧ i.bytes = 32 := by
 have h := zUs
 cases hi : Tryz.prog.info? 111 with
 | none => rw [hi] at h; simp at h
 | some i => rw [hi] at h; simp at h; exact ⟨i, rfl, h.1, h.2.1, h.2.2⟩
theorem yBn (A : Option Addr) (n c : Nat) (xs : List Value) (B : Nat) (w : World) (hone : ∀ u ∈ xs, u.oneCell' = true) (hm : n * 32 ≤ 140737488355328) (hr : Reads w B 4 A n xs) (hB : B ≤ w.heap.size) :
    Calls Tryz.prog 52 #[.slice A n c] w fun e w' => ∃ v, e = .returned v ∧ w'.ownsRow w.heap.size 111 4 v n xs ∧ Below w.heap.size w w' := by
 obtain ⟨i0, hi, hz0, hz1, hz2⟩ := zXz
 have q22 : ∀ (w : World) (a : Option Addr) (n c n' c' : Nat), (binOp .eql 54 (.slice a n c) (.slice none n' c')).run Tryz.prog w = .ok (.bool a.isNone) w := fun w a n c n' c' => Lib.run_eql_slice_nil w _ _ a n c n' c' Tryz.underlying54
 have HR := hide (hr.more hB)
 clear hr
 cases A with
 | none =>
  obtain rfl : n = 0 := by
   rcases Nat.eq_zero_or_pos n with h | h
   ·exact h
   ·obtain ⟨a, ha, _⟩ := (zAa HR).2 h; cases ha
  obtain rfl : xs = [] := List.eq_nil_of_length_eq_zero (by have := (zAa HR).1; omega)
  go_enter Tryz.func52, Tryz.ntmps52
  go_wp2_with fail
  go_ret
  exact ⟨_, rfl, World.ownsRow_nil _ _ _ _, Below.refl _ _⟩
 | some a =>
  have hlit := World.ownsRow_lit (base := w.heap.size) (size := 4) (e := 111) w #[] 0 (Nat.le_refl _) (by unfold maxLen; omega) rfl
  have HLIT := hide hlit
  have HR1 := hide ((zAa HR).alloc (Nat.le_refl _) (.cells #[] 111))
  have h1 : 0 + n ≤ maxLen := by unfold maxLen; omega
  have h2 : (0 + n) * 32 ≤ 140737488355328 := by omega
  have HONE := hide hone
  clear hlit hB hm hone
  go_enter Tryz.func52, Tryz.ntmps52
  go_wp2_with (first
   | (at_builtin; (refine zAr _ rfl (.tmp 5) (.tmp 6) _ rfl w.heap.size 111 i0 _ 4 32 Tryz.underlying54 hi hz0 hz1 hz2 rfl (by omega) _ 0 _ rfl (zAa HLIT) w.heap.size (some a) n c xs rfl (zAa HR1) (zAa HONE) h1 h2 (by simp) ?_); intro v w1 hown hg hv))
  go_ret
  exact ⟨v, rfl, by simpa using hown, ((Below.refl _ w).alloc (Nat.le_refl _) _).grown hg (by simp) fun k hk => ((zAa HLIT).lt k hk).1⟩
end
section
open Go.RowKit
theorem zVx : (Tryz.prog.info? 3).map (fun i => (i.zero, i.size, i.bytes)) = some (some (.int .i64 0), 1, 8) := by kernel_rfl
theorem zXr : ∃ i, Tryz.prog.info? 3 = some i ∧ i.zero = some (.int .i64 0) ∧ i.size = 1 ∧ i.bytes = 8 := by
 have h := zVx
 cases hi : Tryz.prog.info? 3 with
 | none => rw [hi] at h; simp at h
 | some i => rw [hi] at h; simp at h; exact ⟨i, rfl, h.1, h.2.1, h.2.2⟩
theorem yAo (A : Option Addr) (n c : Nat) (xs : List Value) (B : Nat) (w : World) (hone : ∀ u ∈ xs, u.oneCell' = true) (hm : n * 8 ≤ 140737488355328) (hr : Reads w B 1 A n xs) (hB : B ≤ w.heap.size) :
    Calls Tryz.prog 53 #[.slice A n c] w fun e w' => ∃ v, e = .returned v ∧ w'.ownsRow w.heap.size 3 1 v n xs ∧ Below w.heap.size w w' := by
 obtain ⟨i0, hi, hz0, hz1, hz2⟩ := zXr
 have q22 : ∀ (w : World) (a : Option Addr) (n c n' c' : Nat), (binOp .eql 22 (.slice a n c) (.slice none n' c')).run Tryz.prog w = .ok (.bool a.isNone) w := fun w a n c n' c' => Lib.run_eql_slice_nil w _ _ a n c n' c' Tryz.underlying22
 have HR := hide (hr.more hB)
 clear hr
 cases A with
 | none =>
  obtain rfl : n = 0 := by
   rcases Nat.eq_zero_or_pos n with h | h
   ·exact h
   ·obtain ⟨a, ha, _⟩ := (zAa HR).2 h; cases ha
  obtain rfl : xs = [] := List.eq_nil_of_length_eq_zero (by have := (zAa HR).1; omega)
  go_enter Tryz.func53, Tryz.ntmps53
  go_wp2_with fail
  go_ret
  exact ⟨_, rfl, World.ownsRow_nil _ _ _ _, Below.refl _ _⟩
 | some a =>
  have hlit := World.ownsRow_lit (base := w.heap.size) (size := 1) (e := 3) w #[] 0 (Nat.le_refl _) (by unfold maxLen; omega) rfl
  have HLIT := hide hlit
  have HR1 := hide ((zAa HR).alloc (Nat.le_refl _) (.cells #[] 3))
  have h1 : 0 + n ≤ maxLen := by unfold maxLen; omega
  have h2 : (0 + n) * 8 ≤ 140737488355328 := by omega
  have HONE := hide hone
  clear hlit hB hm hone
  go_enter Tryz.func53, Tryz.ntmps53
  go_wp2_with (first
   | (at_builtin; (refine zAr _ rfl (.tmp 5) (.tmp 6) _ rfl w.heap.size 3 i0 _ 1 8 Tryz.underlying22 hi hz0 hz1 hz2 rfl (by omega) _ 0 _ rfl (zAa HLIT) w.heap.size (some a) n c xs rfl (zAa HR1) (zAa HONE) h1 h2 (by simp) ?_); intro v w1 hown hg hv))
  go_ret
  exact ⟨v, rfl, by simpa using hown, ((Below.refl _ w).alloc (Nat.le_refl _) _).grown hg (by simp) fun k hk => ((zAa HLIT).lt k hk).1⟩
end
end Go.Proofs.YtbolcebmbpepdaaGreatDoor
