/- Contracts and plain facts, set together by program out of smaller texts. Conditions: none beyond what each theorem states. -/
import Derived.OrdersHeld
import Derived.Test.YtbolcebmbpepdaaGreatDoorProg
import Derived.BigQuiet
import Derived.Test.YtbolcebmbpepdaaGreatDoorM04
import Derived.Test.YtbolcebmbpepdaaGreatDoorM03
import Derived.Test.YtbolcebmbpepdaaGreatDoorM01
namespace Go.Proofs.YtbolcebmbpepdaaGreatDoor
set_option linter.unusedVariables false
section
open Go.RowKit
section
variable {P : Program} {ops : Array Oper} {Q : Exit → Act → World → Prop} {md : Region.Mode} {C : World → Prop}
def wpS (P : Program) (md : Region.Mode) (ops : Array Oper) (Q : Exit → Act → World → Prop) (C : World → Prop) (cal : List Nat) : Nat → Array Bool → Act → World → Prop
 | 0, listed, a, w => Region.ready md ops listed = [] ∧ Q .normal a w
 | f + 1, listed, a, w =>
  (Region.ready md ops listed = [] → Q .normal a w) ∧
  ∀ i ∈ Region.ready md ops listed, wpOp P ops Q i (fun a' w' => (i ∈ cal → C w') ∧ wpS P md ops Q C cal f (listed.setIfInBounds i true) a' w') a w
theorem wpAny_of_wpS {cal : List Nat} : ∀ (f : Nat) (listed : Array Bool) (a : Act) (w : World), wpS P md ops Q C cal f listed a w → wpAny P md ops Q f listed a w
 | 0, _, _, _, h => h
 | f + 1, _, _, _, h => ⟨h.1, fun i hi => wpOp_mono (fun a' w' h' => wpAny_of_wpS f _ a' w' h'.2) (h.2 i hi)⟩
theorem wpS_first {cal : List Nat} {i : Nat} {oi : Oper} {v : Value} (hi : ops[i]? = some oi) (hsel : ∀ (j : Nat) (o : Oper) cs b, ops[j]? = some o → o.op ≠ .select cs b)
    (hQ : ∀ c a d v w, Q (.panic c) (a.put d v) w → Q (.panic c) a w) (I : Array Bool → Prop) (hI : ∀ listed j, I listed → j ∈ Region.ready md ops listed → j ∈ cal → I (listed.setIfInBounds j true))
    (hw : ∀ listed j, I listed → listed.getD i true = false → j ∈ Region.ready md ops listed → j ∈ cal) :
    ∀ (f : Nat) (listed : Array Bool) (a : Act) (w : World), I listed →
     (∀ j oj, ops[j]? = some oj → j ≠ i → listed.getD j true = false → (∀ e ∈ oj.after, Region.binds md e = true → e.on ≠ i) → oi.apart ops oj = true) →
     i ∈ Region.ready md ops listed → YieldsIf P ops C oi v a → C w →
     wpS P md ops Q C cal f (listed.setIfInBounds i true) (a.put oi.dst v) w → wpS P md ops Q C cal (f + 1) listed a w := by
 intro f
 induction f with
 | zero =>
  intro listed a w _ _ hr hy hS H
  refine ⟨fun h => (by rw [h] at hr; cases hr), fun j hj => ?_⟩
  by_cases hji : j = i
  ·subst hji; exact hy.wpOp hi hS ⟨fun _ => hS, H⟩
  ·have h2 := ready_mono hj hji
   rw [H.1] at h2
   cases h2
 | succ f ih =>
  intro listed a w inv hfree hr hy hS H
  have hun := (mem_ready.1 hr).1
  refine ⟨fun h => (by rw [h] at hr; cases hr), fun j hj => ?_⟩
  by_cases hji : j = i
  ·subst hji; exact hy.wpOp hi hS ⟨fun _ => hS, H⟩
  ·have h1 := H.2 j (ready_mono hj hji)
   have hjc := hw listed j inv hun hj
   obtain ⟨hjun, oj, hoj, hall⟩ := mem_ready.1 hj
   have hnot : ∀ e ∈ oj.after, Region.binds md e = true → e.on ≠ i := fun e he hb heq => by
    have h1 := hall e he hb
    rw [heq, getD_both hun] at h1
    cases h1
   have h2 := wpOp_putIf hoj (hfree j oj hoj hji hjun hnot) (fun cs b => hsel i oi cs b hi) (fun cs b => hsel j oj cs b hoj) (fun c a w => hQ c a _ _ w) hy h1
   refine wpOp_mono (fun a' w' h3 => ⟨fun _ => h3.2.1 hjc, ih (listed.setIfInBounds j true) a' w' (hI listed j inv hj hjc) ?_ (ready_mono hr (Ne.symm hji)) h3.1 (h3.2.1 hjc) ?_⟩) h2
   ·intro k ok hk hki hku hno
    refine hfree k ok hk hki ?_ hno
    by_cases hjk : j = k
    ·subst hjk; exact hjun
    ·rw [getD_set_ne true hjk] at hku; exact hku
   ·rw [Array.setIfInBounds_comm _ _ hji]
    exact h3.2.2
def wpAl (P : Program) (ops : Array Oper) (Q : Exit → Act → World → Prop) (C : World → Prop) (K : Act → World → Prop) : List Oper → Act → World → Prop
 | [], a, w => K a w
 | o :: al, a, w => wpList P ops (fun e a' w' => match e with | .normal => C w' ∧ wpAl P ops Q C K al a' w' | e => Q e a' w') [o] a w
theorem wpOp_of_single {l : List Oper} {k : Nat} {o : Oper} {K : Act → World → Prop} {a : Act} {w : World} (h0 : l.toArray[k]? = some o)
    (h : wpList P l.toArray (fun e a' w' => match e with | .normal => K a' w' | e => Q e a' w') [o] a w) : wpOp P l.toArray Q k K a w := by
 have h1 : wpOp P l.toArray (fun e a' w' => match e with | .normal => K a' w' | e => Q e a' w') k K a w := by
  unfold wpOp
  simp only [h0]
  exact h
 unfold wpOp at h1 ⊢
 simp only [h0] at h1 ⊢
 split
 ·rename_i hw
  simp only [hw, if_true] at h1
  rcases h1 with h1 | h1
  ·refine .inl ?_
   unfold Oper.wp at h1 ⊢
   generalize (execOp a.eval o).run P w = r at *
   cases r with
   | ok n w' =>
    cases n <;> simp only [Oper.upon] at h1 ⊢ <;> first | exact h1 | (refine Calls.mono h1 fun e w'' he => ?_; cases e <;> first | exact he | trivial) | skip
   | halt x w' => cases x <;> simp only [Oper.upon] at h1 ⊢ <;> first | exact h1 | skip
  ·exact .inr h1
 ·rename_i hw
  simp only [hw] at h1
  exact h1
theorem wpS_of_headB {cal tlA : List Nat} {g : Nat} {L : Array Bool → Act → Prop} (hL : ∀ listed a w, C w → L listed a → wpS P md ops Q C cal g listed a w) :
    ∀ (f : Nat) (listed : Array Bool) (a : Act) (w : World), C w → wpAnyB P md ops C tlA L f listed a → wpS P md ops Q C cal (f + g) listed a w
 | 0, listed, a, w, hw, h => by rw [Nat.zero_add]; exact hL _ _ _ hw h
 | f + 1, listed, a, w, hw, h => by
  rw [show f + 1 + g = (f + g) + 1 by omega]
  exact ⟨fun h0 => absurd h0 h.1, fun i hi => wpOp_of_qOp hw (fun a' w' hw' h' => ⟨fun _ => hw', wpS_of_headB hL f _ a' w' hw' h'⟩) (h.2 i hi).2⟩
theorem pick_cons {l : List Oper} {k : Nat} {o : Oper} (is : List Nat) (h : l.toArray[k]? = some o) : pickOps l (k :: is) = o :: pickOps l is := by
 have : l[k]? = some o := by simpa using h
 simp [pickOps, List.getD_eq_getElem?_getD, this]
theorem wpS_of_tl {l : List Oper} {cal : List Nat} : ∀ (tl : List Nat) (listed : Array Bool) (a : Act) (w : World), (∀ k ∈ tl, k ∉ cal) →
    seqBy md l.toArray tl listed = true → wpList P l.toArray Q (pickOps l tl) a w → wpS P md l.toArray Q C cal tl.length listed a w
 | [], _, _, _, _, hB, h => ⟨by simpa [seqBy] using hB, h⟩
 | k :: tl, listed, a, w, hd, hB, h => by
  simp only [seqBy, Bool.and_eq_true, decide_eq_true_eq] at hB
  obtain ⟨⟨hr, hsome⟩, hB'⟩ := hB
  refine ⟨fun h1 => (by rw [hr] at h1; cases h1), fun i hi => ?_⟩
  rw [hr] at hi
  have hik : i = k := by simpa using hi
  subst hik
  obtain ⟨o, ho⟩ := Option.isSome_iff_exists.1 hsome
  rw [pick_cons tl ho] at h
  have hw : wpOp P l.toArray Q i (wpList P l.toArray Q (pickOps l tl)) a w := by unfold wpOp; simp only [ho]; exact h
  exact wpOp_mono (fun a' w' h' => ⟨fun hc => absurd hc (hd i (by simp)), wpS_of_tl tl _ a' w' (fun k hk => hd k (by simp [hk])) hB' h'⟩) hw
theorem wpS_of_al {l : List Oper} {cal : List Nat} {tl : List Nat} : ∀ (al : List Nat) (listed : Array Bool) (a : Act) (w : World), (∀ k ∈ tl, k ∉ cal) →
    seqBy md l.toArray (al ++ tl) listed = true → wpAl P l.toArray Q C (fun a2 w2 => wpList P l.toArray Q (pickOps l tl) a2 w2) (pickOps l al) a w → wpS P md l.toArray Q C cal (al ++ tl).length listed a w
 | [], _, _, _, hd, hB, h => wpS_of_tl tl _ _ _ hd hB h
 | k :: al, listed, a, w, hd, hB, h => by
  rw [List.cons_append] at hB ⊢
  simp only [seqBy, Bool.and_eq_true, decide_eq_true_eq] at hB
  obtain ⟨⟨hr, hsome⟩, hB'⟩ := hB
  refine ⟨fun h1 => (by rw [hr] at h1; cases h1), fun i hi => ?_⟩
  rw [hr] at hi
  have hik : i = k := by simpa using hi
  subst hik
  obtain ⟨o, ho⟩ := Option.isSome_iff_exists.1 hsome
  rw [pick_cons al ho] at h
  exact wpOp_mono (fun a' w' h' => ⟨fun _ => h'.1, wpS_of_al al _ a' w' hd hB' h'.2⟩) (wpOp_of_single ho h)
def stillOp (o : Oper) : Bool :=
 plainOp o || (match o.op with
 | .pick .. | .build .. | .load .. | .binOp .. | .unOp .. | .convert .. | .slice .. | .field .. | .indexAddr .. | .index .. | .extract .. => true
 | .call { callee := .builtin .len, .. } => true
 | _ => false)
theorem value_of_bind {s : Sem Value} {w w' : World} {n : Next} (h : (do let x ← s; pure (Next.value x) : Sem Next).run P w = .ok n w') : ∃ u, n = .value u := by
 simp only [Sem.run_bind] at h
 cases hq : s.run P w with
 | ok u w2 => rw [hq] at h; simp at h; exact ⟨_, h.1.symm⟩
 | halt c w2 => rw [hq] at h; simp at h
theorem stillOp_value {o : Oper} (h : stillOp o = true) {ρ : Operand → Value} {w w' : World} {n : Next} (hr : (execOp ρ o).run P w = .ok n w') : ∃ u, n = .value u := by
 unfold stillOp at h
 rcases Bool.or_eq_true _ _ ▸ h with h | h
 ·exact plainOp_value h hr
 ·unfold execOp at hr
  split at h
  ·rename_i c x y ho
   simp only [ho, Sem.run_bind] at hr
   cases hq : (asBool (ρ c)).run P w with
   | ok u w2 => rw [hq] at hr; simp at hr; exact ⟨_, hr.1.symm⟩
   | halt c w2 => rw [hq] at hr; simp at hr
  all_goals first
   | (rename_i ho; simp only [ho] at hr; exact value_of_bind hr)
   | (cases h; done)
theorem if_of_still {o : Oper} {v : Value} {a : Act} (hp : stillOp o = true) (hy : YieldsIn P ops C o v a) : YieldsIf P ops C o v a := by
 rcases hy with ⟨hw, hv⟩ | h
 ·refine .inl ⟨hw, fun w hc => ?_⟩
  have h1 := hv w hc
  unfold Oper.quietAt at h1
  cases hr : (execOp a.eval o).run P w with
  | ok n w' =>
   obtain ⟨u, rfl⟩ := stillOp_value hp hr
   rw [hr] at h1
   simp only [Oper.quietUpon] at h1
   rw [h1.1, h1.2]
  | halt c w' => rw [hr] at h1; simp only [Oper.quietUpon] at h1
 ·exact .inr h
def hbBy (md : Region.Mode) (ops : Array Oper) : List Nat → Array Bool → Bool
 | [], _ => true
 | k :: hb, listed => (Region.ready md ops listed).contains k && Region.free md ops listed k && (match ops[k]? with | some o => stillOp o | none => false) && hbBy md ops hb (listed.setIfInBounds k true)
theorem wpS_of_hb {l : List Oper} {cal : List Nat} {f : Nat} {w : World} {R : Act → Prop} (hsel : Region.noSelect l.toArray = true) (hQ : ∀ c a d v w, Q (.panic c) (a.put d v) w → Q (.panic c) a w)
    (I : Array Bool → Prop) (hI : ∀ listed j, I listed → j ∈ Region.ready md l.toArray listed → j ∈ cal → I (listed.setIfInBounds j true))
    (hw : ∀ i, i ∈ cal → ∀ listed j, I listed → listed.getD i true = false → j ∈ Region.ready md l.toArray listed → j ∈ cal) (hC : C w) :
    ∀ (hb : List Nat) (listed : Array Bool) (a : Act), I listed → (∀ i ∈ hb, i ∈ cal) → hbBy md l.toArray hb listed = true → wpQuiet P l.toArray C R (pickOps l hb) a →
     (∀ a', I (setAll listed hb) → R a' → wpS P md l.toArray Q C cal f (setAll listed hb) a' w) → wpS P md l.toArray Q C cal (hb.length + f) listed a w
 | [], listed, a, inv, _, _, h, hR => by rw [List.length_nil, Nat.zero_add]; exact hR a inv h
 | k :: hb, listed, a, inv, hc, hB, h, hR => by
  simp only [hbBy, Bool.and_eq_true] at hB
  obtain ⟨⟨⟨hr, hf⟩, hp⟩, hB'⟩ := hB
  cases h0 : l.toArray[k]? with
  | none => rw [h0] at hp; cases hp
  | some o =>
   rw [h0] at hp
   have hpo : stillOp o = true := hp
   rw [pick_cons hb h0] at h
   have hst : qOp P l.toArray C k (wpQuiet P l.toArray C R (pickOps l hb)) a := by unfold qOp; simp only [h0]; exact h
   obtain ⟨v, hy, hK⟩ := yieldsIn_of_qOp h0 hst
   rw [List.length_cons, show hb.length + 1 + f = (hb.length + f) + 1 by omega]
   have hkc := hc k (by simp)
   have hkr : k ∈ Region.ready md l.toArray listed := by simpa using hr
   exact wpS_first h0 (Region.noSelect_spec hsel) hQ I hI (hw k hkc) (hb.length + f) listed a w inv (Region.free_spec h0 hf) hkr (if_of_still hpo hy) hC
    (wpS_of_hb hsel hQ I hI hw hC hb _ _ (hI listed k inv hkr hkc) (fun i hi => hc i (by simp [hi])) hB' hK hR)
theorem setAll_true (z : List Nat) : ∀ (listed : Array Bool) (k : Nat), k < listed.size → (k ∈ z ∨ listed.getD k false = true) → (setAll listed z).getD k false = true := by
 induction z with
 | nil => intro listed k _ h; rcases h with h | h; cases h; exact h
 | cons i z ih =>
  intro listed k hk h
  refine ih _ k (by simpa using hk) ?_
  rcases h with h | h
  ·rcases List.mem_cons.1 h with rfl | h
   ·right; simp [hk]
   ·exact .inl h
  ·exact .inr (getD_set_true h)
def headOf (al : List Nat) (u : Nat) : Nat := match al with | [] => u | k :: _ => k
def restOf (al : List Nat) (u : Nat) (tl : List Nat) : List Nat := match al with | [] => tl | _ :: al' => al' ++ u :: tl
theorem head_rest (al : List Nat) (u : Nat) (tl : List Nat) : headOf al u :: restOf al u tl = al ++ u :: tl := by cases al <;> rfl
def fullB (md : Region.Mode) (ops : Array Oper) (z hb ha al : List Nat) (u : Nat) (tl : List Nat) : Bool :=
 Region.noSelect ops && sinkBy md ops u (hb ++ ha ++ al) && chainBy md ops u tl && sinkBy md ops (headOf al u) ha && chainBy md ops (headOf al u) (restOf al u tl) &&
  (hb ++ ha ++ al).all (fun i => !(u :: tl).contains i) && (hb ++ ha).all (fun i => !al.contains i) && (al ++ u :: tl).all (fun i => decide (i < ops.size)) && z.all (fun i => decide (i < ops.size)) &&
  decide (z.length + (hb.length + (ha.length + (al ++ u :: tl).length)) = ops.size) && (List.range ops.size).all (fun j => z.contains j || (hb ++ ha ++ al).contains j || (u :: tl).contains j) &&
  zBy md ops (al ++ u :: tl) z (Array.replicate ops.size false) && hbBy md ops hb (setAll (Array.replicate ops.size false) z) && lexBy md ops (al ++ u :: tl) ha (setAll (setAll (Array.replicate ops.size false) z) hb)
theorem wp_region_full {id : Nat} {a : Act} {w : World} {l : List Oper} (z hb ha al : List Nat) (u : Nat) (tl : List Nat) (hm : P.follows .mixedOrders = true) (hB : fullB .any l.toArray z hb ha al u tl = true) (hQ : ∀ c a d v w, Q (.panic c) (a.put d v) w → Q (.panic c) a w) (hC : C { w with drawn := w.drawn + 1 })
    (h : wpQuiet P l.toArray (fun _ => True) (wpQuiet P l.toArray C (wpQuiet P l.toArray C (fun a' => ∀ w', C w' → wpAl P l.toArray Q C (fun a2 w2 => wpList P l.toArray Q (pickOps l (u :: tl)) a2 w2) (pickOps l al) a' w') (pickOps l ha)) (pickOps l hb)) (pickOps l z) a) : (Code.region id l.toArray true).wp P Q a w := by
 simp only [fullB, Bool.and_eq_true, decide_eq_true_eq, List.all_eq_true] at hB
 obtain ⟨⟨⟨⟨⟨⟨⟨⟨⟨⟨⟨⟨⟨hsel, hs1⟩, hc1⟩, hs2⟩, hc2⟩, hd1⟩, hd2⟩, hlt⟩, hzlt⟩, hlen⟩, hcov⟩, hz⟩, hhb⟩, hlex⟩ := hB
 have hdis : ∀ k ∈ u :: tl, k ∉ hb ++ ha ++ al := fun k hk hc => by have := hd1 k hc; simp only [Bool.not_eq_true', List.contains_eq_mem, decide_eq_false_iff_not] at this; exact this hk
 have hdis2 : ∀ k ∈ hb ++ ha, k ∉ al ++ u :: tl := fun k hk hc => by
  rcases List.mem_append.1 hc with h1 | h1
  ·have := hd2 k hk; simp only [Bool.not_eq_true', List.contains_eq_mem, decide_eq_false_iff_not] at this; exact this h1
  ·exact hdis k h1 (List.mem_append.2 (.inl hk))
 have inv0 : HeadBy .any l.toArray (al ++ u :: tl) (Array.replicate l.toArray.size false) :=
  ⟨by simp, fun j oj _ hl => (by rw [getD_replicate_false] at hl; cases hl), fun x hx => getD_in (by have := hlt x hx; simpa using this) (getD_replicate_false _ _)⟩
 have inv1 := HeadBy.setAll z _ inv0 hz
 have hI1 : ∀ listed j, (HeadBy .any l.toArray (u :: tl) listed ∧ ∀ k ∈ z, listed.getD k false = true) → j ∈ Region.ready .any l.toArray listed → j ∈ hb ++ ha ++ al → (HeadBy .any l.toArray (u :: tl) (listed.setIfInBounds j true) ∧ ∀ k ∈ z, (listed.setIfInBounds j true).getD k false = true) :=
  fun listed j h hj hc => ⟨h.1.set hj (fun hx => hdis j hx hc), fun k hk => getD_set_true (h.2 k hk)⟩
 have hw1 : ∀ i, i ∈ hb ++ ha ++ al → ∀ listed j, (HeadBy .any l.toArray (u :: tl) listed ∧ ∀ k ∈ z, listed.getD k false = true) → listed.getD i true = false → j ∈ Region.ready .any l.toArray listed → j ∈ hb ++ ha ++ al := by
  intro i hi listed j hI hun hj
  obtain ⟨hjun, oj, hoj, _⟩ := mem_ready.1 hj
  have hjs : j < l.toArray.size := (Array.getElem?_eq_some_iff.1 hoj).1
  have hcj := hcov j (List.mem_range.2 hjs)
  simp only [Bool.or_eq_true, List.contains_eq_mem, decide_eq_true_eq] at hcj
  rcases hcj with (h1 | h1) | h1
  ·have h2 := hI.2 j h1
   rw [getD_both hjun] at h2
   cases h2
  ·exact h1
  ·exfalso
   rcases List.mem_cons.1 h1 with rfl | h2
   ·exact first_waits hI.1 _ hs1 i hi hun hj
   ·exact chain_waits tl u hc1 hI.1.tail j h2 hj
 refine wp_region_any hm ?_
 suffices H2 : wpAny P .any l.toArray Q (z.length + (hb.length + (ha.length + (al ++ u :: tl).length))) (Array.replicate l.toArray.size false) a { w with drawn := w.drawn + 1 } by rw [hlen] at H2; exact H2
 refine wpAny_of_z hsel hQ z _ a hz h fun a' h' => wpAny_of_wpS (C := C) (cal := hb ++ ha ++ al) _ _ _ _ ?_
 have hinv1 : HeadBy .any l.toArray (u :: tl) (setAll (Array.replicate l.toArray.size false) z) := ⟨inv1.size, inv1.closed, fun x hx => inv1.tail x (List.mem_append.2 (.inr hx))⟩
 refine wpS_of_hb hsel hQ (fun listed => HeadBy .any l.toArray (u :: tl) listed ∧ ∀ k ∈ z, listed.getD k false = true) hI1 hw1 hC hb _ a' ⟨hinv1, fun k hk => setAll_true z _ k (by have := hzlt k hk; simpa using this) (.inl hk)⟩ (fun i hi => by simp [hi]) hhb h' ?_
 intro a2 hI2 h2
 have inv2 : HeadBy .any l.toArray (al ++ u :: tl) (setAll (setAll (Array.replicate l.toArray.size false) z) hb) := by
  refine ⟨hI2.1.size, hI2.1.closed, fun x hx => ?_⟩
  have hnz : ∀ (hb' : List Nat) (listed : Array Bool), (∀ k ∈ hb', k ≠ x) → listed.getD x true = false → (setAll listed hb').getD x true = false := by
   intro hb'
   induction hb' with
   | nil => intro listed _ h; exact h
   | cons k hb' ih => intro listed hk h; exact ih _ (fun y hy => hk y (by simp [hy])) (by rw [getD_set_ne true (hk k (by simp))]; exact h)
  exact hnz hb _ (fun k hk e => hdis2 k (by simp [hk]) (e ▸ hx)) (inv1.tail x hx)
 rw [← head_rest] at inv2 hlex
 have H := wpAnyB_lex (md := .any) (C := C) hsel hc2 ha _ a2 hs2 (fun i hi => by rw [head_rest]; exact hdis2 i (by simp [hi])) inv2 hlex h2
 refine wpS_of_headB (g := (al ++ u :: tl).length) (fun listed a3 w3 hw3 hL => ?_) _ _ _ _ hC H
 have h3 := hL.1
 rw [head_rest] at h3
 exact wpS_of_al al listed a3 w3 hdis h3 (hL.2 w3 hw3)
theorem wp_region_calm_full {id : Nat} {a : Act} {w : World} {l : List Oper} (z hb ha al : List Nat) (u : Nat) (tl : List Nat) (hm : P.follows .mixedOrders = true) (hB : fullB .any l.toArray z hb ha al u tl = true) (hQ : ∀ c a d v w, Q (.panic c) (a.put d v) w → Q (.panic c) a w)
    (h : wpQuiet P l.toArray (fun _ => True) (wpQuiet P l.toArray (fun w' => ∃ n : Ext w, w' = n.W) (wpQuiet P l.toArray (fun w' => ∃ n : Ext w, w' = n.W) (fun a' => ∀ w', (∃ n : Ext w, w' = n.W) → wpAl P l.toArray Q (fun w' => ∃ n : Ext w, w' = n.W) (fun a2 w2 => wpList P l.toArray Q (pickOps l (u :: tl)) a2 w2) (pickOps l al) a' w') (pickOps l ha)) (pickOps l hb)) (pickOps l z) a) : (Code.region id l.toArray true).wp P Q a w :=
 wp_region_full z hb ha al u tl hm hB hQ ⟨⟨w.drew, (Below.refl _ w).drew⟩, rfl⟩ h
theorem wp_region_draw_full {id : Nat} {a : Act} {w : World} {l : List Oper} (z hb ha al : List Nat) (u : Nat) (tl : List Nat) (hm : P.follows .mixedOrders = true) (hB : fullB .any l.toArray z hb ha al u tl = true) (hQ : ∀ c a d v w, Q (.panic c) (a.put d v) w → Q (.panic c) a w)
    (h : wpQuiet P l.toArray (fun _ => True) (wpQuiet P l.toArray (fun w' => ∃ n, w' = w.drewN n) (wpQuiet P l.toArray (fun w' => ∃ n, w' = w.drewN n) (fun a' => ∀ w', (∃ n, w' = w.drewN n) → wpAl P l.toArray Q (fun w' => ∃ n, w' = w.drewN n) (fun a2 w2 => wpList P l.toArray Q (pickOps l (u :: tl)) a2 w2) (pickOps l al) a' w') (pickOps l ha)) (pickOps l hb)) (pickOps l z) a) : (Code.region id l.toArray true).wp P Q a w :=
 wp_region_full z hb ha al u tl hm hB hQ ⟨1, rfl⟩ h
end
end
section
open Go.RowKit
def idxZ (f : Int → Bool) : List Int → Nat → Int
 | [], _ => -1
 | z :: l, k => if f z then k else idxZ f l (k + 1)
theorem idxZ_any (f : Int → Bool) : ∀ (l : List Int) (k : Nat), decide (0 ≤ idxZ f l k) = l.any f
 | [], k => by simp [idxZ]
 | z :: l, k => by
  cases hf : f z with
  | true => simp [idxZ, hf]
  | false => simp only [idxZ, hf, List.any_cons, Bool.false_or]; exact idxZ_any f l (k + 1)
theorem intIndex_any (fn : FuncId) (cap : Array Value) (f : Int → Bool) (A : Option Addr) (n c : Nat) (zs : List Int) (B : Nat) (Inv : World → Prop) (w : World) (hl : zs.length = n) (hm : n ≤ maxLen)
    (hr : ∀ W, Inv W → Reads W B 1 A n (zs.map (.int .i64))) (hI : Inv w)
    (hrun : ∀ args W, (callFunc fn args).run Tryz.prog W = .ok (.enter fn args) W)
    (h : ∀ z W, z ∈ zs → Inv W → Calls Tryz.prog fn (#[.int .i64 z] ++ cap) W fun x w' => x = .returned (.bool (f z)) ∧ Inv w') :
    Calls Tryz.prog 76 #[.slice A n c, .func (.func fn) #[] cap] w fun e w' => e = .returned (.int .i64 (idxZ f zs 0)) ∧ Inv w' := by
 have HR := hide hr
 have HL := hide hl
 have H := hide h
 have HI := hide hI
 unfold maxLen at hm
 clear hr hl h hI
 go_enter Tryz.func76, Tryz.ntmps76
 go_wp2_with fail
 go_loopw [8] (fun i wr => ∃ (k : Nat), k ≤ n ∧ i = .int .i64 k ∧ Hid (Inv wr) ∧ Hid (idxZ f (zs.drop k) k = idxZ f zs 0)) (fun i _ => n - (intOf i).toNat)
 case atStart => exact ⟨0, Nat.zero_le _, rfl, HI, rfl⟩
 case round =>
  obtain ⟨k, hk, rfl, HW, HX⟩ := hrel
  by_cases hlt : k < n
  ·obtain ⟨b, o, z, rfl, hbl, hz, hc⟩ := at_num (unhide HR _ (unhide HW)) hlt
   have HX2 := hide (by have h := unhide HX; rw [drop_cons zs k z hz, idxZ] at h; exact h)
   have H2 := hide (unhide H z wr (List.mem_of_getElem? hz) (unhide HW))
   clear HX hz
   cases hf : f z with
   | true =>
    have HX3 := hide (by have h := unhide HX2; rw [if_pos hf] at h; exact h)
    rw [hf] at H2
    clear HX2
    go_wp2_with fail
    refine (unhide H2).mono ?_
    rintro _ w2 ⟨rfl, hb2⟩
    have HB2 := hide hb2
    clear hb2
    go_wp2_with fail
    go_ret
    exact ⟨ret_int (unhide HX3), unhide HB2⟩
   | false =>
    have HX3 := hide (by have h := unhide HX2; rw [if_neg (by rw [hf]; simp)] at h; exact h)
    rw [hf] at H2
    clear HX2
    go_wp2_with fail
    refine (unhide H2).mono ?_
    rintro _ w2 ⟨rfl, hb2⟩
    have HB2 := hide hb2
    clear hb2
    go_wp2_with fail
    go_roundw
    case rel => exact ⟨k + 1, by omega, by go_num, HB2, unhide HX3⟩
    case measure => simp [intOf]; omega
  ·obtain rfl : k = n := by omega
   have HF := hide (show idxZ f zs 0 = -1 by
    have h := unhide HX
    rw [List.drop_of_length_le (by rw [unhide HL]; exact Nat.le_refl _)] at h
    exact h.symm)
   clear HX
   go_wp2_with fail
   go_ret
   exact ⟨ret_int (unhide HF).symm, unhide HW⟩
theorem intContains_any (fn : FuncId) (cap : Array Value) (f : Int → Bool) (A : Option Addr) (n c : Nat) (zs : List Int) (B : Nat) (Inv : World → Prop) (w : World) (hl : zs.length = n) (hm : n ≤ maxLen)
    (hr : ∀ W, Inv W → Reads W B 1 A n (zs.map (.int .i64))) (hI : Inv w)
    (hrun : ∀ args W, (callFunc fn args).run Tryz.prog W = .ok (.enter fn args) W)
    (h : ∀ z W, z ∈ zs → Inv W → Calls Tryz.prog fn (#[.int .i64 z] ++ cap) W fun x w' => x = .returned (.bool (f z)) ∧ Inv w') :
    Calls Tryz.prog 57 #[.slice A n c, .func (.func fn) #[] cap] w fun e w' => e = .returned (.bool (zs.any f)) ∧ Inv w' := by
 have H := hide (intIndex_any fn cap f A n c zs B Inv w hl hm hr hI hrun h)
 have HF := hide (idxZ_any f zs 0)
 obtain ⟨x, hx⟩ : ∃ x, idxZ f zs 0 = x := ⟨_, rfl⟩
 rw [hx] at H HF
 clear hl hr hI hrun h hm hx
 go_enter Tryz.func57, Tryz.ntmps57
 go_wp2_with fail
 refine (unhide H).mono ?_
 rintro _ w2 ⟨rfl, hb2⟩
 have HB2 := hide hb2
 clear hb2
 go_wp2_with fail
 go_ret
 exact ⟨ret_bool (by rw [← unhide HF]), unhide HB2⟩
end
section
open Go.RowKit
def szGo : List Int → Int → Int × Int
 | [], b => ((b + 7) / 8, 0)
 | z :: l, b => if z < 1 ∨ 60 < z then (0, 2) else szGo l (b + z)
def sizeP (zs : List Int) : Int × Int := if 40 < zs.length then (0, 1) else szGo zs 0
theorem wireSize_any (A : Option Addr) (n c : Nat) (zs : List Int) (B : Nat) (w : World) (hl : zs.length = n) (hm : n ≤ 9223372036854775807) (hr : Reads w B 1 A n (zs.map (.int .i64))) :
    Calls Tryz.prog 124 #[.slice A n c] w fun e w' => e = .returned (.tuple #[.int .i64 (sizeP zs).1, .int .i64 (sizeP zs).2]) ∧ w = w' := by
 have HR := hide hr
 clear hr
 have HL := hide hl
 clear hl
 by_cases h40 : 40 < n
 ·have HF := hide (show sizeP zs = (0, 1) by unfold sizeP; rw [unhide HL, if_pos h40])
  go_enter Tryz.func124, Tryz.ntmps124
  go_wp2_with fail
  go_ret2
  exact ⟨by rw [unhide HF]; rfl, rfl⟩
 ·have HF := hide (show sizeP zs = szGo zs 0 by unfold sizeP; rw [unhide HL, if_neg h40])
  have h40' : n ≤ 40 := by omega
  clear h40
  go_enter Tryz.func124, Tryz.ntmps124
  go_wp2_with fail
  go_loop [4, 12] (fun b i => ∃ (k : Nat) (b0 : Nat), k ≤ n ∧ i = .int .i64 k ∧ b = .int .i64 b0 ∧ b0 ≤ 60 * k ∧ Hid (szGo (zs.drop k) b0 = szGo zs 0)) (fun _ i => n - (intOf i).toNat)
  case atStart => exact ⟨0, 0, Nat.zero_le _, rfl, rfl, by omega, rfl⟩
  case round =>
   obtain ⟨k, b0, hk, rfl, rfl, hb, HI⟩ := hrel
   by_cases hlt : k < n
   ·obtain ⟨ad, u, rfl, _, hz, hc⟩ := at_kind (unhide HR) hlt
    have HI2 := hide (by have h := unhide HI; rw [drop_cons zs k u hz, szGo] at h; exact h)
    clear HI hz
    by_cases h1 : u < 1 ∨ 60 < u
    ·have HG := hide (by have h := unhide HI2; rw [if_pos h1] at h; exact h)
     clear HI2
     rcases h1 with h1 | h1
     all_goals
      go_wp2_with fail
      go_ret2
      exact ⟨by rw [unhide HF, ← unhide HG]; rfl, rfl⟩
    ·have HG := hide (by have h := unhide HI2; rw [if_neg h1] at h; exact h)
     clear HI2
     obtain ⟨u, rfl⟩ := Int.eq_ofNat_of_zero_le (show 0 ≤ u by omega)
     have h2 : 1 ≤ u := by omega
     have h3 : u ≤ 60 := by omega
     clear h1
     go_wp2_with fail
     go_round
     case rel => exact ⟨k + 1, b0 + u, by omega, by go_num, by go_num, by omega, unhide HG⟩
     case measure => simp [intOf]; omega
   ·obtain rfl : k = n := by omega
    have HG := hide (by have h := unhide HI; rw [List.drop_of_length_le (by rw [unhide HL]; exact Nat.le_refl _), szGo] at h; exact h)
    clear HI
    go_wp2_with fail
    go_ret2
    exact ⟨by rw [unhide HF, ← unhide HG]; rfl, rfl⟩
end
section
open Go.RowKit
theorem pow_le_128 (r : Nat) (hr : r ≤ 7) : 2 ^ r ≤ 128 := Nat.le_trans (Nat.pow_le_pow_right (by omega) hr) (by omega)
theorem put_val (old bit r : Nat) (hr : r < 8) (hbit : bit ≤ 1) (hold : old ≤ 255) (hlow : old % 2 ^ (8 - r) = 0) :
    bits .or .u8 (old : Int) (wrap64 ((bit : Int) * 2 ^ (7 - r)) % 256) = ((old + bit * 2 ^ (7 - r) : Nat) : Int) ∧ old + bit * 2 ^ (7 - r) ≤ 255 := by
 have hp := pow_le_128 (7 - r) (by omega)
 have hy : bit * 2 ^ (7 - r) ≤ 128 := by
  rcases (show bit = 0 ∨ bit = 1 by omega) with rfl | rfl
  ·simp
  ·simpa using hp
 have e1 : ((bit : Int) * 2 ^ (7 - r)) = ((bit * 2 ^ (7 - r) : Nat) : Int) := by simp
 have e2 : wrap64 ((bit * 2 ^ (7 - r) : Nat) : Int) % 256 = ((bit * 2 ^ (7 - r) : Nat) : Int) := by unfold wrap64; omega
 have hlt : bit * 2 ^ (7 - r) < 2 ^ (8 - r) := by
  have e : 2 ^ (8 - r) = 2 * 2 ^ (7 - r) := by rw [show 8 - r = (7 - r) + 1 from by omega, Nat.pow_succ]; omega
  rw [e]
  have hpos : 0 < 2 ^ (7 - r) := Nat.pow_pos (by omega)
  rcases (show bit = 0 ∨ bit = 1 by omega) with rfl | rfl
  ·simpa using hpos
  ·omega
 have hj := nat_join (8 - r) old (bit * 2 ^ (7 - r)) hlow hlt
 have hor := Nat.or_lt_two_pow (n := 8) (show old < 2 ^ 8 by omega) (show bit * 2 ^ (7 - r) < 2 ^ 8 by omega)
 rw [hj] at hor
 rw [e1, e2, u8_or_nat old _ (by omega) (by omega), hj]
 exact ⟨rfl, by omega⟩
theorem stripPut_any (g h : Nat) (m c at0 bit : Nat) (old : Nat) (w : World) (hw : at0 / 8 < m) (hc : m ≤ c) (hat : at0 ≤ 1000000) (hbit : bit ≤ 1) (hold : old ≤ 255) (hlow : old % 2 ^ (8 - at0 % 8) = 0)
    (c0 : w.cell? ⟨g, 0, none⟩ = some (.slice (some ⟨h, 0, none⟩) m c)) (c1 : w.cell? ⟨g, 1, none⟩ = some (.int .i64 at0)) (c2 : w.cell? ⟨h, at0 / 8, none⟩ = some (.int .u8 old))
    (f1 : w.frozen? ⟨g, 1, none⟩ = false) (f2 : w.frozen? ⟨h, at0 / 8, none⟩ = false) (hgh : h ≠ g) :
    Calls Tryz.prog 125 #[.pointer (some ⟨g, 0, none⟩), .int .i64 bit] w fun e w' => e = .returned (.tuple #[]) ∧
     ((w.setCell ⟨h, at0 / 8, none⟩ (.int .u8 ((old + bit * 2 ^ (7 - at0 % 8) : Nat) : Int))).setCell ⟨g, 1, none⟩ (.int .i64 (at0 + 1))).drew = w' := by
 have hv := (put_val old bit (at0 % 8) (Nat.mod_lt _ (by omega)) hbit hold hlow).1
 go_enter Tryz.func125, Tryz.ntmps125
 go_wp2_with fail
 go_region
 go_wp2
 go_end0
 exact ⟨rfl, rfl⟩
def bitsVal (bs : List Nat) : Nat → Nat → Nat
 | _, 0 => 0
 | i, k + 1 => 2 * bitsVal bs i k + bs.getD (i + k) 0
def byteOf (bs : List Nat) (i : Nat) : Nat := bitsVal bs (8 * i) 8
def bytesOf (bs : List Nat) (n : Nat) : List Int := (List.range n).map fun i => (byteOf bs i : Int)
def fieldBits (f : Int × Int) : List Nat := (List.range f.1.toNat).map fun k => f.2.toNat / 2 ^ (f.1.toNat - 1 - k) % 2
def allBits (fs : List (Int × Int)) : List Nat := fs.flatMap fieldBits
def fitsF (f : Int × Int) : Bool := decide (0 ≤ f.2 ∧ f.2 < 2 ^ f.1.toNat)
def packP (fs : List (Int × Int)) : List Int × Int :=
 if (sizeP (fs.map (·.1))).2 ≠ 0 then ([], (sizeP (fs.map (·.1))).2) else if fs.all fitsF then (bytesOf (allBits fs) (sizeP (fs.map (·.1))).1.toNat, 0) else ([], 12)
theorem bitsVal_lt (bs : List Nat) (h : ∀ b ∈ bs, b ≤ 1) (i k : Nat) : bitsVal bs i k < 2 ^ k := by
 induction k with
 | zero => simp [bitsVal]
 | succ k ih =>
  have : bs.getD (i + k) 0 ≤ 1 := by
   rw [List.getD_eq_getElem?_getD]
   cases hg : bs[i + k]? with
   | none => simp
   | some b => exact h b (List.mem_of_getElem? hg)
  rw [bitsVal, Nat.pow_succ]
  omega
theorem bitsVal_snoc_before (bs : List Nat) (b i k : Nat) (h : i + k ≤ bs.length) : bitsVal (bs ++ [b]) i k = bitsVal bs i k := by
 induction k with
 | zero => rfl
 | succ k ih =>
  rw [bitsVal, bitsVal, ih (by omega)]
  congr 1
  rw [List.getD_eq_getElem?_getD, List.getD_eq_getElem?_getD, List.getElem?_append_left (by omega)]
theorem bitsVal_snoc_after (bs : List Nat) (b i k : Nat) (h : bs.length < i) : bitsVal (bs ++ [b]) i k = bitsVal bs i k := by
 induction k with
 | zero => rfl
 | succ k ih =>
  rw [bitsVal, bitsVal, ih]
  congr 1
  rw [List.getD_eq_getElem?_getD, List.getD_eq_getElem?_getD, List.getElem?_eq_none (by simp; omega), List.getElem?_eq_none (by omega)]
theorem bitsVal_snoc_in (bs : List Nat) (b i k : Nat) (h : i ≤ bs.length) (h2 : bs.length < i + k) : bitsVal (bs ++ [b]) i k = bitsVal bs i k + b * 2 ^ (i + k - 1 - bs.length) := by
 induction k with
 | zero => omega
 | succ k ih =>
  rw [bitsVal, bitsVal]
  by_cases he : bs.length = i + k
  ·have g1 : (bs ++ [b]).getD (i + k) 0 = b := by rw [← he]; simp
   have g2 : bs.getD (i + k) 0 = 0 := by rw [List.getD_eq_getElem?_getD, List.getElem?_eq_none (by omega)]; rfl
   rw [bitsVal_snoc_before bs b i k (by omega), g1, g2, show i + (k + 1) - 1 - bs.length = 0 by omega]
   simp
  ·rw [ih (by omega), List.getD_eq_getElem?_getD, List.getD_eq_getElem?_getD, List.getElem?_eq_none (by simp; omega), List.getElem?_eq_none (by omega)]
   rw [show i + (k + 1) - 1 - bs.length = (i + k - 1 - bs.length) + 1 by omega, Nat.pow_succ, Nat.mul_add]
   simp [Nat.mul_comm, Nat.mul_left_comm]
theorem bitsVal_low (bs : List Nat) (i k : Nat) (h : i ≤ bs.length) (h2 : bs.length ≤ i + k) : bitsVal bs i k % 2 ^ (i + k - bs.length) = 0 := by
 induction k with
 | zero => simp [bitsVal]
 | succ k ih =>
  by_cases he : bs.length = i + (k + 1)
  ·rw [he]; simp [Nat.mod_one]
  ·rw [bitsVal, List.getD_eq_getElem?_getD, List.getElem?_eq_none (by omega), show i + (k + 1) - bs.length = (i + k - bs.length) + 1 by omega, Nat.pow_succ]
   have := ih (by omega)
   simp only [Option.getD_none, Nat.add_zero]
   rw [Nat.mul_comm 2, Nat.mul_mod_mul_right, this, Nat.zero_mul]
theorem bytesOf_snoc (bs : List Nat) (b n : Nat) (hn : bs.length / 8 < n) :
    bytesOf (bs ++ [b]) n = (bytesOf bs n).set (bs.length / 8) ((byteOf bs (bs.length / 8) + b * 2 ^ (7 - bs.length % 8) : Nat) : Int) := by
 refine List.ext_getElem (by simp [bytesOf]) fun i h1 h2 => ?_
 simp only [bytesOf, List.getElem_map, List.getElem_range, List.getElem_set]
 by_cases he : bs.length / 8 = i
 ·rw [if_pos he, ← he]
  unfold byteOf
  rw [bitsVal_snoc_in bs b _ 8 (by omega) (by omega)]
  rw [show 8 * (bs.length / 8) + 8 - 1 - bs.length = 7 - bs.length % 8 by omega]
 ·rw [if_neg he]
  unfold byteOf
  rcases Nat.lt_or_gt_of_ne he with h | h
  ·rw [bitsVal_snoc_after bs b _ 8 (by omega)]
  ·rw [bitsVal_snoc_before bs b _ 8 (by omega)]
theorem byteOf_low (bs : List Nat) : byteOf bs (bs.length / 8) % 2 ^ (8 - bs.length % 8) = 0 := by
 have := bitsVal_low bs (8 * (bs.length / 8)) 8 (by omega) (by omega)
 rw [show 8 * (bs.length / 8) + 8 - bs.length = 8 - bs.length % 8 by omega] at this
 exact this
theorem byteOf_le (bs : List Nat) (h : ∀ b ∈ bs, b ≤ 1) (i : Nat) : byteOf bs i ≤ 255 := by
 have := bitsVal_lt bs h (8 * i) 8
 unfold byteOf
 omega
theorem bytesOf_nil (n : Nat) : bytesOf [] n = List.replicate n 0 := by
 refine List.ext_getElem (by simp [bytesOf]) fun i h1 h2 => ?_
 simp [bytesOf, byteOf, bitsVal]
theorem fieldBits_le (f : Int × Int) : ∀ b ∈ fieldBits f, b ≤ 1 := by
 intro b hb
 simp only [fieldBits, List.mem_map] at hb
 obtain ⟨k, _, rfl⟩ := hb
 omega
theorem allBits_le (fs : List (Int × Int)) : ∀ b ∈ allBits fs, b ≤ 1 := by
 intro b hb
 simp only [allBits, List.mem_flatMap] at hb
 obtain ⟨f, _, hf⟩ := hb
 exact fieldBits_le f b hf
theorem fieldBits_len (f : Int × Int) : (fieldBits f).length = f.1.toNat := by simp [fieldBits]
end
section
open Go.RowKit
def fldCells (f : Int × Int) : List Value := [.int .i64 f.1, .int .i64 f.2]
theorem fldCells_len (f : Int × Int) : (fldCells f).length = 2 := rfl
def wcells (fs : List (Int × Int)) (k : Nat) : List Value := ((fs.take k).map (·.1)).map (Value.int .i64)
theorem wcells_succ (fs : List (Int × Int)) (k : Nat) (f : Int × Int) (h : fs[k]? = some f) : wcells fs (k + 1) = wcells fs k ++ [.int .i64 f.1] := by
 simp [wcells, take_snoc fs k f h]
theorem wcells_all (fs : List (Int × Int)) : wcells fs fs.length = (fs.map (·.1)).map (Value.int .i64) := by simp [wcells]
theorem info_int : (Tryz.prog.info? 3).map (fun i => (i.zero, i.size, i.bytes)) = some (some (.int .i64 0), 1, 8) := by kernel_rfl
theorem info_u8 : (Tryz.prog.info? 5).map (fun i => (i.zero, i.size, i.bytes)) = some (some (.int .u8 0), 1, 1) := by kernel_rfl
theorem szGo_ok (zs : List Int) (b N : Nat) (h : szGo zs b = ((N : Int), 0)) : (∀ z ∈ zs, 1 ≤ z ∧ z ≤ 60) ∧ N = (b + (zs.map Int.toNat).sum + 7) / 8 := by
 induction zs generalizing b with
 | nil => simp only [szGo, Prod.mk.injEq] at h; exact ⟨by simp, by simp; omega⟩
 | cons z l ih =>
  rw [szGo] at h
  by_cases h1 : z < 1 ∨ 60 < z
  ·rw [if_pos h1] at h; simp at h
  ·rw [if_neg h1] at h
   obtain ⟨z, rfl⟩ := Int.eq_ofNat_of_zero_le (show 0 ≤ z by omega)
   have := ih (b + z) (by rw [← h]; simp)
   refine ⟨fun y hy => ?_, by rw [this.2]; simp; omega⟩
   rcases List.mem_cons.1 hy with rfl | hy
   ·omega
   ·exact this.1 y hy
theorem szGo_cases (zs : List Int) (b : Nat) : szGo zs b = (0, 2) ∨ ∃ N : Nat, szGo zs b = ((N : Int), 0) := by
 induction zs generalizing b with
 | nil => exact .inr ⟨(b + 7) / 8, by simp [szGo]⟩
 | cons z l ih =>
  rw [szGo]
  by_cases h1 : z < 1 ∨ 60 < z
  ·exact .inl (by rw [if_pos h1])
  ·rw [if_neg h1]
   obtain ⟨z, rfl⟩ := Int.eq_ofNat_of_zero_le (show 0 ≤ z by omega)
   exact ih (b + z)
theorem sizeP_cases (zs : List Int) : (sizeP zs = (0, 1)) ∨ (sizeP zs = (0, 2)) ∨ ∃ N : Nat, sizeP zs = ((N : Int), 0) ∧ zs.length ≤ 40 ∧ (∀ z ∈ zs, 1 ≤ z ∧ z ≤ 60) ∧ N = ((zs.map Int.toNat).sum + 7) / 8 := by
 unfold sizeP
 by_cases h : 40 < zs.length
 ·exact .inl (by rw [if_pos h])
 ·rw [if_neg h]
  rcases szGo_cases zs 0 with h1 | ⟨N, h1⟩
  ·exact .inr (.inl h1)
  ·have := szGo_ok zs 0 N h1
   exact .inr (.inr ⟨N, h1, by omega, this.1, by simpa using this.2⟩)
theorem allBits_len (fs : List (Int × Int)) : (allBits fs).length = ((fs.map (·.1)).map Int.toNat).sum := by
 induction fs with
 | nil => rfl
 | cons f l ih =>
  have : allBits (f :: l) = fieldBits f ++ allBits l := by simp [allBits]
  rw [this, List.length_append, ih, fieldBits_len]
  simp
theorem allBits_snoc (fs : List (Int × Int)) (k : Nat) (f : Int × Int) (h : fs[k]? = some f) : allBits (fs.take (k + 1)) = allBits (fs.take k) ++ fieldBits f := by
 rw [take_snoc fs k f h]; simp [allBits]
theorem allBits_take_le (fs : List (Int × Int)) (k : Nat) : (allBits (fs.take k)).length ≤ (allBits fs).length := by
 have e : allBits fs = allBits (fs.take k) ++ allBits (fs.drop k) := by
  unfold allBits
  rw [← List.flatMap_append, List.take_append_drop]
 rw [e, List.length_append]
 omega
theorem sum_le (zs : List Int) (h : ∀ z ∈ zs, 1 ≤ z ∧ z ≤ 60) : (zs.map Int.toNat).sum ≤ 60 * zs.length := by
 induction zs with
 | nil => simp
 | cons z l ih =>
  have h1 := h z (by simp)
  have h2 := ih (fun y hy => h y (by simp [hy]))
  simp only [List.map_cons, List.sum_cons, List.length_cons]
  omega
theorem fieldBits_take (w : Nat) (v : Nat) (t : Nat) (ht : t < w) : (fieldBits ((w : Int), (v : Int))).take (t + 1) = (fieldBits ((w : Int), (v : Int))).take t ++ [v / 2 ^ (w - 1 - t) % 2] := by
 refine take_snoc _ t _ ?_
 simp [fieldBits, ht]
def PackAt (W w : World) (g h N : Nat) (bs : List Nat) : Prop :=
 Below W.heap.size W w ∧ W.heap.size ≤ h ∧ g = h + 1 ∧ Blk w g 208 #[.slice (some ⟨h, 0, none⟩) N N, .int .i64 bs.length] ∧ Blk w h 5 ((bytesOf bs N).map (Value.int .u8)).toArray
theorem PackAt.put {W w : World} {g h N : Nat} {bs : List Nat} (H : PackAt W w g h N bs) (b : Nat) (hn : bs.length / 8 < N) :
    PackAt W (((w.setCell ⟨h, bs.length / 8, none⟩ (.int .u8 ((byteOf bs (bs.length / 8) + b * 2 ^ (7 - bs.length % 8) : Nat) : Int))).setCell ⟨g, 1, none⟩ (.int .i64 (bs.length + 1))).drew) g h N (bs ++ [b]) := by
 obtain ⟨hb, hh, rfl, h1, h2⟩ := H
 have h1' := ((h1.far (p := ⟨h, bs.length / 8, none⟩) (by simp) (.int .u8 ((byteOf bs (bs.length / 8) + b * 2 ^ (7 - bs.length % 8) : Nat) : Int))).set_ 1 (.int .i64 (bs.length + 1))).drew
 have h2' := ((h2.set_ (bs.length / 8) (.int .u8 ((byteOf bs (bs.length / 8) + b * 2 ^ (7 - bs.length % 8) : Nat) : Int))).far (p := ⟨h + 1, 1, none⟩) (by simp) (.int .i64 (bs.length + 1))).drew
 refine ⟨((hb.setCell (by simpa using hh) _).setCell (by simp; omega) _).drew, hh, rfl, ?_, ?_⟩
 ·simpa using h1'
 ·rw [bytesOf_snoc bs b N hn]
  have e : (((bytesOf bs N).set (bs.length / 8) ((byteOf bs (bs.length / 8) + b * 2 ^ (7 - bs.length % 8) : Nat) : Int)).map (Value.int .u8)).toArray =
      (((bytesOf bs N).map (Value.int .u8)).toArray).setIfInBounds (bs.length / 8) (.int .u8 ((byteOf bs (bs.length / 8) + b * 2 ^ (7 - bs.length % 8) : Nat) : Int)) := by
   simp [List.map_set]
  rw [e]
  exact h2'
theorem PackAt.alloc {W w : World} {g h N : Nat} {bs : List Nat} (H : PackAt W w g h N bs) (o : Obj) : PackAt W (w.alloc o) g h N bs :=
 ⟨H.1.alloc H.1.size o, H.2.1, H.2.2.1, H.2.2.2.1.alloc o, H.2.2.2.2.alloc o⟩
theorem shr_and1 (v j : Nat) (hv : v ≤ 9223372036854775807) : bits .and .i64 ((v : Int) / 2 ^ j) 1 = ((v / 2 ^ j % 2 : Nat) : Int) := by
 have e : ((v:Int) / 2 ^ j) = ((v / 2 ^ j : Nat) : Int) := by simp
 have hd : v / 2 ^ j ≤ v := Nat.div_le_self _ _
 rw [e, show (1:Int) = ((1:Nat):Int) from rfl, i64_and_nat _ _ (by omega) (by omega), Nat.and_one_is_mod]
theorem two_pow_60 {wd : Nat} (h : wd ≤ 60) : 2 ^ wd ≤ 1152921504606846976 := Nat.le_trans (Nat.pow_le_pow_right (by omega) h) (by omega)
theorem PackAt.reads {W w : World} {g h N : Nat} {bs : List Nat} (H : PackAt W w g h N bs) (hn : bs.length / 8 < N) :
    w.cell? ⟨g, 0, none⟩ = some (.slice (some ⟨h, 0, none⟩) N N) ∧ w.cell? ⟨g, 1, none⟩ = some (.int .i64 bs.length) ∧ w.cell? ⟨h, bs.length / 8, none⟩ = some (.int .u8 (byteOf bs (bs.length / 8))) ∧
     w.frozen? ⟨g, 1, none⟩ = false ∧ w.frozen? ⟨h, bs.length / 8, none⟩ = false ∧ h ≠ g := by
 obtain ⟨hb, hh, rfl, h1, h2⟩ := H
 refine ⟨by rw [h1.cell]; rfl, by rw [h1.cell]; rfl, ?_, h1.frozen 1, h2.frozen _, by omega⟩
 rw [h2.cell]
 simp [bytesOf, hn]
def But2 (w w' : World) (g h : Nat) : Prop := w'.heap.size = w.heap.size ∧ ∀ b, b ≠ g → b ≠ h → w'.heap[b]? = w.heap[b]?
theorem But2.blk {w w' : World} {g h b : Nat} {t : TypeId} {cs : Array Value} (H : But2 w w' g h) (hb : Blk w b t cs) (hg : b ≠ g) (hh : b ≠ h) : Blk w' b t cs := (H.2 b hg hh).trans hb
theorem stripPut_at (W w : World) (g h N bit : Nat) (bs : List Nat) (H : PackAt W w g h N bs) (hn : bs.length / 8 < N) (hat : bs.length ≤ 1000000) (hbit : bit ≤ 1) (hle : ∀ b ∈ bs, b ≤ 1) :
    Calls Tryz.prog 125 #[.pointer (some ⟨g, 0, none⟩), .int .i64 bit] w fun e w' => e = .returned (.tuple #[]) ∧ PackAt W w' g h N (bs ++ [bit]) ∧ But2 w w' g h := by
 obtain ⟨d0, d1, d2, e1, e2, e3⟩ := H.reads hn
 refine (stripPut_any g h N N bs.length bit (byteOf bs (bs.length / 8)) w hn (Nat.le_refl _) hat hbit (byteOf_le _ hle _) (byteOf_low _) d0 d1 d2 e1 e2 e3).mono ?_
 rintro e w' ⟨rfl, rfl⟩
 refine ⟨rfl, H.put bit hn, by simp [World.setCell, World.drew], fun b hg hh => ?_⟩
 exact (Below.heap_setCell _ _ _ _ (by simpa using hg)).trans (Below.heap_setCell _ _ _ _ (by simpa using hh))
end
end Go.Proofs.YtbolcebmbpepdaaGreatDoor
