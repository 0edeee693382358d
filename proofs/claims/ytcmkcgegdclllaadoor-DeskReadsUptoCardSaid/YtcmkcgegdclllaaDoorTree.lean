/- A region that draws its order and of whose tail several may come up at a time: a tree of orders. Conditions: none beyond what each theorem states. -/
import Derived.Test.YtcmkcgegdclllaaDoorRegion
namespace Go.Proofs.YtcmkcgegdclllaaDoor
open Go.RowKit

/-- which operation comes next; 'fork': either -/
inductive OT where
  | done : OT
  | next : Nat → OT → OT
  | fork : OT → OT → OT
def OT.keys : OT → List Nat
  | .done => []
  | .next k _ => [k]
  | .fork a b => a.keys ++ b.keys
section
variable {P : Program} {ops : Array Oper} {Q : Exit → Act → World → Prop} {md : Region.Mode} {C : World → Prop}
/-- (may these come up now, and so on; the same of each of the next ones alone) -/
def OT.chk (md : Region.Mode) (ops : Array Oper) : OT → Array Bool → Bool × Bool
  | .done, listed => ((Region.ready md ops listed).isEmpty, true)
  | .next k t, listed => (decide (Region.ready md ops listed = [k]) && ((ops[k]?).isSome && (t.chk md ops (listed.setIfInBounds k true)).1), (ops[k]?).isSome && (t.chk md ops (listed.setIfInBounds k true)).1)
  | .fork a b, listed => (decide (Region.ready md ops listed = a.keys ++ b.keys) && !(a.keys ++ b.keys).isEmpty && (a.chk md ops listed).2 && (b.chk md ops listed).2, (a.chk md ops listed).2 && (b.chk md ops listed).2)
def OT.ok (md : Region.Mode) (ops : Array Oper) (t : OT) (listed : Array Bool) : Bool := (t.chk md ops listed).1
def OT.kids (md : Region.Mode) (ops : Array Oper) (t : OT) (listed : Array Bool) : Bool := (t.chk md ops listed).2
theorem OT.ok_done (listed : Array Bool) : OT.ok md ops .done listed = (Region.ready md ops listed).isEmpty := rfl
theorem OT.ok_next (k : Nat) (t : OT) (listed : Array Bool) : OT.ok md ops (.next k t) listed = (decide (Region.ready md ops listed = [k]) && OT.kids md ops (.next k t) listed) := rfl
theorem OT.ok_fork (a b : OT) (listed : Array Bool) : OT.ok md ops (.fork a b) listed = (decide (Region.ready md ops listed = a.keys ++ b.keys) && !(a.keys ++ b.keys).isEmpty && OT.kids md ops a listed && OT.kids md ops b listed) := rfl
theorem OT.kids_next (k : Nat) (t : OT) (listed : Array Bool) : OT.kids md ops (.next k t) listed = ((ops[k]?).isSome && OT.ok md ops t (listed.setIfInBounds k true)) := rfl
theorem OT.kids_fork (a b : OT) (listed : Array Bool) : OT.kids md ops (.fork a b) listed = (OT.kids md ops a listed && OT.kids md ops b listed) := rfl
/-- how many operations are left on every way -/
def OT.depth : OT → Nat
  | .done => 0
  | .next _ t => t.depth + 1
  | .fork a _ => a.depth
def OT.even : OT → Bool
  | .done => true
  | .next _ t => t.even
  | .fork a b => a.even && b.even && decide (a.depth = b.depth)
/-- the walk of a tree of orders: behind each operation of 'cal' the world is of the class -/
def wpT (P : Program) (l : List Oper) (Q : Exit → Act → World → Prop) (C : World → Prop) (cal : List Nat) : OT → Act → World → Prop
  | .done, a, w => Q .normal a w
  | .next k t, a, w => wpList P l.toArray (fun e a' w' => match e with | .normal => (k ∈ cal → C w') ∧ wpT P l Q C cal t a' w' | e => Q e a' w') (pickOps l [k]) a w
  | .fork s t, a, w => wpT P l Q C cal s a w ∧ wpT P l Q C cal t a w
theorem wpS_of_kids {l : List Oper} {cal : List Nat} : ∀ (t : OT) (n : Nat) (listed : Array Bool) (a : Act) (w : World), t.depth ≤ n → t.even = true →
    (t.kids md l.toArray listed = true → wpT P l Q C cal t a w → ∀ i ∈ t.keys, wpOp P l.toArray Q i (fun a' w' => (i ∈ cal → C w') ∧ wpS P md l.toArray Q C cal (t.depth - 1) (listed.setIfInBounds i true) a' w') a w) ∧
    (t.ok md l.toArray listed = true → wpT P l Q C cal t a w → wpS P md l.toArray Q C cal t.depth listed a w) := by
  intro t
  induction t with
  | done =>
    intro n listed a w _ _
    exact ⟨(fun _ _ i hi => by cases hi), fun h hw => ⟨by rw [OT.ok_done] at h; simpa using h, hw⟩⟩
  | next k t ih =>
    intro n listed a w hn he
    have hk : (OT.next k t).kids md l.toArray listed = true → wpT P l Q C cal (.next k t) a w → ∀ i ∈ (OT.next k t).keys, wpOp P l.toArray Q i (fun a' w' => (i ∈ cal → C w') ∧ wpS P md l.toArray Q C cal ((OT.next k t).depth - 1) (listed.setIfInBounds i true) a' w') a w := by
      intro h hw i hi
      simp only [OT.keys, List.mem_singleton] at hi
      subst hi
      simp only [OT.kids_next, Bool.and_eq_true] at h
      obtain ⟨o, ho⟩ := Option.isSome_iff_exists.1 h.1
      simp only [wpT] at hw
      rw [pick_cons [] ho] at hw
      exact wpOp_mono (fun a' w' h' => ⟨h'.1, (ih t.depth _ a' w' (Nat.le_refl _) he).2 h.2 h'.2⟩) (wpOp_of_single ho hw)
    refine ⟨hk, fun h hw => ?_⟩
    simp only [OT.ok_next, Bool.and_eq_true, decide_eq_true_eq] at h
    refine ⟨fun h0 => (by rw [h.1] at h0; cases h0), fun i hi => ?_⟩
    rw [h.1] at hi
    exact hk h.2 hw i hi
  | fork s t ihs iht =>
    intro n listed a w hn he
    simp only [OT.even, Bool.and_eq_true, decide_eq_true_eq] at he
    have hk : (OT.fork s t).kids md l.toArray listed = true → wpT P l Q C cal (.fork s t) a w → ∀ i ∈ (OT.fork s t).keys, wpOp P l.toArray Q i (fun a' w' => (i ∈ cal → C w') ∧ wpS P md l.toArray Q C cal ((OT.fork s t).depth - 1) (listed.setIfInBounds i true) a' w') a w := by
      intro h hw i hi
      simp only [OT.kids_fork, Bool.and_eq_true] at h
      simp only [wpT] at hw
      rcases List.mem_append.1 hi with hi | hi
      · exact (ihs s.depth listed a w (Nat.le_refl _) he.1.1).1 h.1 hw.1 i hi
      · have h2 := (iht t.depth listed a w (Nat.le_refl _) he.1.2).1 h.2 hw.2 i hi
        rw [← he.2] at h2
        exact h2
    refine ⟨hk, fun h hw => ?_⟩
    simp only [OT.ok_fork, Bool.and_eq_true, decide_eq_true_eq] at h
    obtain ⟨⟨⟨hr, hne⟩, h1⟩, h2⟩ := h
    have hpos : ∀ (t : OT), t.keys ≠ [] → t.even = true → 0 < t.depth := by
      intro t
      induction t with
      | done => intro h; exact absurd rfl h
      | next k t _ => intro _ _; simp [OT.depth]
      | fork a b iha ihb =>
        intro h he
        simp only [OT.even, Bool.and_eq_true, decide_eq_true_eq] at he
        simp only [OT.depth]
        by_cases ha : a.keys = []
        · rw [he.2]
          exact ihb (fun hb => h (by simp [OT.keys, ha, hb])) he.1.2
        · exact iha ha he.1.1
    have hd : 0 < (OT.fork s t).depth := hpos (.fork s t) (fun e => by simp only [OT.keys] at e; rw [e] at hne; simp at hne) (by simp [OT.even, he])
    obtain ⟨d, hd2⟩ : ∃ d, (OT.fork s t).depth = d + 1 := ⟨(OT.fork s t).depth - 1, by omega⟩
    rw [hd2]
    refine ⟨fun h0 => (by rw [hr] at h0; rw [h0] at hne; simp at hne), fun i hi => ?_⟩
    rw [hr] at hi
    have h3 := hk (by rw [OT.kids_fork, h1, h2]; rfl) hw i hi
    rw [hd2] at h3
    exact h3
def treeB (md : Region.Mode) (ops : Array Oper) (z hb al : List Nat) (u : Nat) (tl : List Nat) (t : OT) : Bool :=
  Region.noSelect ops && sinkBy md ops u (hb ++ al) && chainBy md ops u tl &&
    (hb ++ al).all (fun i => !(u :: tl).contains i) && (u :: tl).all (fun i => decide (i < ops.size)) && z.all (fun i => decide (i < ops.size)) &&
    decide (z.length + (hb.length + t.depth) = ops.size) && t.even && (List.range ops.size).all (fun j => z.contains j || (hb ++ al).contains j || (u :: tl).contains j) &&
    zBy md ops (u :: tl) z (Array.replicate ops.size false) && hbBy md ops hb (setAll (Array.replicate ops.size false) z) && t.ok md ops (setAll (setAll (Array.replicate ops.size false) z) hb)
theorem wp_region_tree {id : Nat} {a : Act} {w : World} {l : List Oper} (z hb al : List Nat) (u : Nat) (tl : List Nat) (t : OT) (hm : P.follows .mixedOrders = true) (hB : treeB .any l.toArray z hb al u tl t = true) (hQ : ∀ c a d v w, Q (.panic c) (a.put d v) w → Q (.panic c) a w) (hC : C { w with drawn := w.drawn + 1 })
    (h : wpQuiet P l.toArray (fun _ => True) (wpQuiet P l.toArray C (fun a' => wpT P l Q C (hb ++ al) t a' { w with drawn := w.drawn + 1 }) (pickOps l hb)) (pickOps l z) a) : (Code.region id l.toArray true).wp P Q a w := by
  simp only [treeB, Bool.and_eq_true, decide_eq_true_eq, List.all_eq_true] at hB
  obtain ⟨⟨⟨⟨⟨⟨⟨⟨⟨⟨⟨hsel, hs1⟩, hc1⟩, hd1⟩, hlt⟩, hzlt⟩, hlen⟩, hev⟩, hcov⟩, hz⟩, hhb⟩, htree⟩ := hB
  have hdis : ∀ k ∈ u :: tl, k ∉ hb ++ al := fun k hk hc => by have := hd1 k hc; simp only [Bool.not_eq_true', List.contains_eq_mem, decide_eq_false_iff_not] at this; exact this hk
  have inv0 : HeadBy .any l.toArray (u :: tl) (Array.replicate l.toArray.size false) :=
    ⟨by simp, fun j oj _ hl => (by rw [getD_replicate_false] at hl; cases hl), fun x hx => getD_in (by have := hlt x hx; simpa using this) (getD_replicate_false _ _)⟩
  have inv1 := HeadBy.setAll z _ inv0 hz
  have hI1 : ∀ listed j, (HeadBy .any l.toArray (u :: tl) listed ∧ ∀ k ∈ z, listed.getD k false = true) → j ∈ Region.ready .any l.toArray listed → j ∈ hb ++ al → (HeadBy .any l.toArray (u :: tl) (listed.setIfInBounds j true) ∧ ∀ k ∈ z, (listed.setIfInBounds j true).getD k false = true) :=
    fun listed j h hj hc => ⟨h.1.set hj (fun hx => hdis j hx hc), fun k hk => getD_set_true (h.2 k hk)⟩
  have hw1 : ∀ i, i ∈ hb ++ al → ∀ listed j, (HeadBy .any l.toArray (u :: tl) listed ∧ ∀ k ∈ z, listed.getD k false = true) → listed.getD i true = false → j ∈ Region.ready .any l.toArray listed → j ∈ hb ++ al := by
    intro i hi listed j hI hun hj
    obtain ⟨hjun, oj, hoj, _⟩ := mem_ready.1 hj
    have hjs : j < l.toArray.size := (Array.getElem?_eq_some_iff.1 hoj).1
    have hcj := hcov j (List.mem_range.2 hjs)
    simp only [Bool.or_eq_true, List.contains_eq_mem, decide_eq_true_eq] at hcj
    rcases hcj with (h1 | h1) | h1
    · have h2 := hI.2 j h1
      rw [getD_both hjun] at h2
      cases h2
    · exact h1
    · exfalso
      rcases List.mem_cons.1 h1 with rfl | h2
      · exact first_waits hI.1 _ hs1 i hi hun hj
      · exact chain_waits tl u hc1 hI.1.tail j h2 hj
  refine wp_region_any hm ?_
  suffices H2 : wpAny P .any l.toArray Q (z.length + (hb.length + t.depth)) (Array.replicate l.toArray.size false) a { w with drawn := w.drawn + 1 } by rw [hlen] at H2; exact H2
  refine wpAny_of_z hsel hQ z _ a hz h fun a' h' => wpAny_of_wpS (C := C) (cal := hb ++ al) _ _ _ _ ?_
  refine wpS_of_hb hsel hQ (fun listed => HeadBy .any l.toArray (u :: tl) listed ∧ ∀ k ∈ z, listed.getD k false = true) hI1 hw1 hC hb _ a' ⟨inv1, fun k hk => setAll_true z _ k (by have := hzlt k hk; simpa using this) (.inl hk)⟩ (fun i hi => by simp [hi]) hhb h' ?_
  intro a2 _ h2
  exact (wpS_of_kids t t.depth _ a2 _ (Nat.le_refl _) hev).2 htree h2
theorem wp_region_calm_tree {id : Nat} {a : Act} {w : World} {l : List Oper} (z hb al : List Nat) (u : Nat) (tl : List Nat) (t : OT) (hm : P.follows .mixedOrders = true) (hB : treeB .any l.toArray z hb al u tl t = true) (hQ : ∀ c a d v w, Q (.panic c) (a.put d v) w → Q (.panic c) a w)
    (h : wpQuiet P l.toArray (fun _ => True) (wpQuiet P l.toArray (fun w' => ∃ n : Ext w, w' = n.W) (fun a' => wpT P l Q (fun w' => ∃ n : Ext w, w' = n.W) (hb ++ al) t a' w.drew) (pickOps l hb)) (pickOps l z) a) : (Code.region id l.toArray true).wp P Q a w :=
  wp_region_tree z hb al u tl t hm hB hQ ⟨⟨w.drew, (Below.refl _ w).drew⟩, rfl⟩ h
theorem wpT_fork {l : List Oper} {cal : List Nat} {s t : OT} {a : Act} {w : World} (h1 : wpT P l Q C cal s a w) (h2 : wpT P l Q C cal t a w) : wpT P l Q C cal (.fork s t) a w := ⟨h1, h2⟩
theorem wpT_done {l : List Oper} {cal : List Nat} {a : Act} {w : World} (h : Q .normal a w) : wpT P l Q C cal .done a w := h
/-- one operation, what follows behind a variable -/
theorem wpT_step {l : List Oper} {cal : List Nat} {k : Nat} {t : OT} {a : Act} {w : World}
    (h : ∀ K : Act → World → Prop, (∀ a' w', (k ∈ cal → C w') → wpT P l Q C cal t a' w' → K a' w') → wpList P l.toArray (fun e a' w' => match e with | .normal => K a' w' | e => Q e a' w') (pickOps l [k]) a w) : wpT P l Q C cal (.next k t) a w :=
  h _ fun _ _ h1 h2 => ⟨h1, h2⟩
end
end Go.Proofs.YtcmkcgegdclllaaDoor
