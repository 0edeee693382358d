/- Contracts and plain facts, set together by program out of smaller texts. Conditions: none beyond what each theorem states. -/
import Derived.OrdersHeld
import Derived.Test.YtbolcebmbpepdaaGreatDoorProg
import Derived.BigQuiet
import Derived.Test.YtbolcebmbpepdaaGreatDoorM03
import Derived.Test.YtbolcebmbpepdaaGreatDoorM02
import Derived.Test.YtbolcebmbpepdaaGreatDoorM01
namespace Go.Proofs.YtbolcebmbpepdaaGreatDoor
set_option linter.unusedVariables false
section
open Go.RowKit
section
variable {P : Program} {ops : Array Oper} {Q : Exit → Act → World → Prop} {md : Region.Mode} {C : World → Prop}
def wpS (P : Program) (md : Region.Mode) (ops : Array Oper) (Q : Exit → Act → World → Prop) (C : World → Prop) (cal : List Nat) : Nat → Array Bool → Act → World → Prop
 | 0, listed, a, w => Region.ready md ops listed = [] ∧ Q .normal a w
 | f + 1, listed, a, w =>
  (Region.ready md ops listed = [] → Q .normal a w) ∧
  ∀ i ∈ Region.ready md ops listed, wpOp P ops Q i (fun a' w' => (i ∈ cal → C w') ∧ wpS P md ops Q C cal f (listed.setIfInBounds i true) a' w') a w
theorem zEn {cal : List Nat} : ∀ (f : Nat) (listed : Array Bool) (a : Act) (w : World), wpS P md ops Q C cal f listed a w → wpAny P md ops Q f listed a w
 | 0, _, _, _, h => h
 | f + 1, _, _, _, h => ⟨h.1, fun i hi => wpOp_mono (fun a' w' h' => zEn f _ a' w' h'.2) (h.2 i hi)⟩
theorem yCm {cal : List Nat} {i : Nat} {oi : Oper} {v : Value} (hi : ops[i]? = some oi) (hsel : ∀ (j : Nat) (o : Oper) cs b, ops[j]? = some o → o.op ≠ .select cs b)
    (hQ : ∀ c a d v w, Q (.panic c) (a.put d v) w → Q (.panic c) a w) (I : Array Bool → Prop) (hI : ∀ listed j, I listed → j ∈ Region.ready md ops listed → j ∈ cal → I (listed.setIfInBounds j true))
    (hw : ∀ listed j, I listed → listed.getD i true = false → j ∈ Region.ready md ops listed → j ∈ cal) :
    ∀ (f : Nat) (listed : Array Bool) (a : Act) (w : World), I listed →
     (∀ j oj, ops[j]? = some oj → j ≠ i → listed.getD j true = false → (∀ e ∈ oj.after, Region.binds md e = true → e.on ≠ i) → oi.apart ops oj = true) →
     i ∈ Region.ready md ops listed → YieldsIf P ops C oi v a → C w →
     wpS P md ops Q C cal f (listed.setIfInBounds i true) (a.put oi.dst v) w → wpS P md ops Q C cal (f + 1) listed a w := by
 intro f
 induction f with
 | zero =>
  intro listed a w _ _ hr hy hS H
  refine ⟨fun h => (by rw [h] at hr; cases hr), fun j hj => ?_⟩
  by_cases hji : j = i
  ·subst hji; exact hy.wpOp hi hS ⟨fun _ => hS, H⟩
  ·have h2 := ready_mono hj hji
   rw [H.1] at h2
   cases h2
 | succ f ih =>
  intro listed a w inv hfree hr hy hS H
  have hun := (mem_ready.1 hr).1
  refine ⟨fun h => (by rw [h] at hr; cases hr), fun j hj => ?_⟩
  by_cases hji : j = i
  ·subst hji; exact hy.wpOp hi hS ⟨fun _ => hS, H⟩
  ·have h1 := H.2 j (ready_mono hj hji)
   have hjc := hw listed j inv hun hj
   obtain ⟨hjun, oj, hoj, hall⟩ := mem_ready.1 hj
   have hnot : ∀ e ∈ oj.after, Region.binds md e = true → e.on ≠ i := fun e he hb heq => by
    have h1 := hall e he hb
    rw [heq, getD_both hun] at h1
    cases h1
   have h2 := wpOp_putIf hoj (hfree j oj hoj hji hjun hnot) (fun cs b => hsel i oi cs b hi) (fun cs b => hsel j oj cs b hoj) (fun c a w => hQ c a _ _ w) hy h1
   refine wpOp_mono (fun a' w' h3 => ⟨fun _ => h3.2.1 hjc, ih (listed.setIfInBounds j true) a' w' (hI listed j inv hj hjc) ?_ (ready_mono hr (Ne.symm hji)) h3.1 (h3.2.1 hjc) ?_⟩) h2
   ·intro k ok hk hki hku hno
    refine hfree k ok hk hki ?_ hno
    by_cases hjk : j = k
    ·subst hjk; exact hjun
    ·rw [getD_set_ne true hjk] at hku; exact hku
   ·rw [Array.setIfInBounds_comm _ _ hji]
    exact h3.2.2
def wpAl (P : Program) (ops : Array Oper) (Q : Exit → Act → World → Prop) (C : World → Prop) (K : Act → World → Prop) : List Oper → Act → World → Prop
 | [], a, w => K a w
 | o :: al, a, w => wpList P ops (fun e a' w' => match e with | .normal => C w' ∧ wpAl P ops Q C K al a' w' | e => Q e a' w') [o] a w
theorem zId {l : List Oper} {k : Nat} {o : Oper} {K : Act → World → Prop} {a : Act} {w : World} (h0 : l.toArray[k]? = some o)
    (h : wpList P l.toArray (fun e a' w' => match e with | .normal => K a' w' | e => Q e a' w') [o] a w) : wpOp P l.toArray Q k K a w := by
 have h1 : wpOp P l.toArray (fun e a' w' => match e with | .normal => K a' w' | e => Q e a' w') k K a w := by
  unfold wpOp
  simp only [h0]
  exact h
 unfold wpOp at h1 ⊢
 simp only [h0] at h1 ⊢
 split
 ·rename_i hw
  simp only [hw, if_true] at h1
  rcases h1 with h1 | h1
  ·refine .inl ?_
   unfold Oper.wp at h1 ⊢
   generalize (execOp a.eval o).run P w = r at *
   cases r with
   | ok n w' =>
    cases n <;> simp only [Oper.upon] at h1 ⊢ <;> first | exact h1 | (refine Calls.mono h1 fun e w'' he => ?_; cases e <;> first | exact he | trivial) | skip
   | halt x w' => cases x <;> simp only [Oper.upon] at h1 ⊢ <;> first | exact h1 | skip
  ·exact .inr h1
 ·rename_i hw
  simp only [hw] at h1
  exact h1
theorem zNc {cal tlA : List Nat} {g : Nat} {L : Array Bool → Act → Prop} (hL : ∀ listed a w, C w → L listed a → wpS P md ops Q C cal g listed a w) :
    ∀ (f : Nat) (listed : Array Bool) (a : Act) (w : World), C w → zMx P md ops C tlA L f listed a → wpS P md ops Q C cal (f + g) listed a w
 | 0, listed, a, w, hw, h => by rw [Nat.zero_add]; exact hL _ _ _ hw h
 | f + 1, listed, a, w, hw, h => by
  rw [show f + 1 + g = (f + g) + 1 by omega]
  exact ⟨fun h0 => absurd h0 h.1, fun i hi => wpOp_of_qOp hw (fun a' w' hw' h' => ⟨fun _ => hw', zNc hL f _ a' w' hw' h'⟩) (h.2 i hi).2⟩
theorem zIs {l : List Oper} {k : Nat} {o : Oper} (is : List Nat) (h : l.toArray[k]? = some o) : zAb l (k :: is) = o :: zAb l is := by
 have : l[k]? = some o := by simpa using h
 simp [zAb, List.getD_eq_getElem?_getD, this]
theorem zSi {l : List Oper} {cal : List Nat} : ∀ (tl : List Nat) (listed : Array Bool) (a : Act) (w : World), (∀ k ∈ tl, k ∉ cal) →
    zHm md l.toArray tl listed = true → wpList P l.toArray Q (zAb l tl) a w → wpS P md l.toArray Q C cal tl.length listed a w
 | [], _, _, _, _, hB, h => ⟨by simpa [zHm] using hB, h⟩
 | k :: tl, listed, a, w, hd, hB, h => by
  simp only [zHm, Bool.and_eq_true, decide_eq_true_eq] at hB
  obtain ⟨⟨hr, hsome⟩, hB'⟩ := hB
  refine ⟨fun h1 => (by rw [hr] at h1; cases h1), fun i hi => ?_⟩
  rw [hr] at hi
  have hik : i = k := by simpa using hi
  subst hik
  obtain ⟨o, ho⟩ := Option.isSome_iff_exists.1 hsome
  rw [zIs tl ho] at h
  have hw : wpOp P l.toArray Q i (wpList P l.toArray Q (zAb l tl)) a w := by unfold wpOp; simp only [ho]; exact h
  exact wpOp_mono (fun a' w' h' => ⟨fun hc => absurd hc (hd i (by simp)), zSi tl _ a' w' (fun k hk => hd k (by simp [hk])) hB' h'⟩) hw
theorem zNg {l : List Oper} {cal : List Nat} {tl : List Nat} : ∀ (al : List Nat) (listed : Array Bool) (a : Act) (w : World), (∀ k ∈ tl, k ∉ cal) →
    zHm md l.toArray (al ++ tl) listed = true → wpAl P l.toArray Q C (fun a2 w2 => wpList P l.toArray Q (zAb l tl) a2 w2) (zAb l al) a w → wpS P md l.toArray Q C cal (al ++ tl).length listed a w
 | [], _, _, _, hd, hB, h => zSi tl _ _ _ hd hB h
 | k :: al, listed, a, w, hd, hB, h => by
  rw [List.cons_append] at hB ⊢
  simp only [zHm, Bool.and_eq_true, decide_eq_true_eq] at hB
  obtain ⟨⟨hr, hsome⟩, hB'⟩ := hB
  refine ⟨fun h1 => (by rw [hr] at h1; cases h1), fun i hi => ?_⟩
  rw [hr] at hi
  have hik : i = k := by simpa using hi
  subst hik
  obtain ⟨o, ho⟩ := Option.isSome_iff_exists.1 hsome
  rw [zIs al ho] at h
  exact wpOp_mono (fun a' w' h' => ⟨fun _ => h'.1, zNg al _ a' w' hd hB' h'.2⟩) (zId ho h)
def zKt (o : Oper) : Bool :=
 zJj o || (match o.op with
 | .pick .. | .build .. | .load .. | .binOp .. | .unOp .. | .convert .. | .slice .. | .field .. | .indexAddr .. | .index .. | .extract .. => true
 | .call { callee := .builtin .len, .. } => true
 | _ => false)
theorem zSp {s : Sem Value} {w w' : World} {n : Next} (h : (do let x ← s; pure (Next.value x) : Sem Next).run P w = .ok n w') : ∃ u, n = .value u := by
 simp only [Sem.run_bind] at h
 cases hq : s.run P w with
 | ok u w2 => rw [hq] at h; simp at h; exact ⟨_, h.1.symm⟩
 | halt c w2 => rw [hq] at h; simp at h
theorem zSu {o : Oper} (h : zKt o = true) {ρ : Operand → Value} {w w' : World} {n : Next} (hr : (execOp ρ o).run P w = .ok n w') : ∃ u, n = .value u := by
 unfold zKt at h
 rcases Bool.or_eq_true _ _ ▸ h with h | h
 ·exact zMl h hr
 ·unfold execOp at hr
  split at h
  ·rename_i c x y ho
   simp only [ho, Sem.run_bind] at hr
   cases hq : (asBool (ρ c)).run P w with
   | ok u w2 => rw [hq] at hr; simp at hr; exact ⟨_, hr.1.symm⟩
   | halt c w2 => rw [hq] at hr; simp at hr
  all_goals first
   | (rename_i ho; simp only [ho] at hr; exact zSp hr)
   | (cases h; done)
theorem zXc {o : Oper} {v : Value} {a : Act} (hp : zKt o = true) (hy : YieldsIn P ops C o v a) : YieldsIf P ops C o v a := by
 rcases hy with ⟨hw, hv⟩ | h
 ·refine .inl ⟨hw, fun w hc => ?_⟩
  have h1 := hv w hc
  unfold Oper.quietAt at h1
  cases hr : (execOp a.eval o).run P w with
  | ok n w' =>
   obtain ⟨u, rfl⟩ := zSu hp hr
   rw [hr] at h1
   simp only [Oper.quietUpon] at h1
   rw [h1.1, h1.2]
  | halt c w' => rw [hr] at h1; simp only [Oper.quietUpon] at h1
 ·exact .inr h
def hbBy (md : Region.Mode) (ops : Array Oper) : List Nat → Array Bool → Bool
 | [], _ => true
 | k :: hb, listed => (Region.ready md ops listed).contains k && Region.free md ops listed k && (match ops[k]? with | some o => zKt o | none => false) && hbBy md ops hb (listed.setIfInBounds k true)
theorem zFq {l : List Oper} {cal : List Nat} {f : Nat} {w : World} {R : Act → Prop} (hsel : Region.noSelect l.toArray = true) (hQ : ∀ c a d v w, Q (.panic c) (a.put d v) w → Q (.panic c) a w)
    (I : Array Bool → Prop) (hI : ∀ listed j, I listed → j ∈ Region.ready md l.toArray listed → j ∈ cal → I (listed.setIfInBounds j true))
    (hw : ∀ i, i ∈ cal → ∀ listed j, I listed → listed.getD i true = false → j ∈ Region.ready md l.toArray listed → j ∈ cal) (hC : C w) :
    ∀ (hb : List Nat) (listed : Array Bool) (a : Act), I listed → (∀ i ∈ hb, i ∈ cal) → hbBy md l.toArray hb listed = true → wpQuiet P l.toArray C R (zAb l hb) a →
     (∀ a', I (zBx listed hb) → R a' → wpS P md l.toArray Q C cal f (zBx listed hb) a' w) → wpS P md l.toArray Q C cal (hb.length + f) listed a w
 | [], listed, a, inv, _, _, h, hR => by rw [List.length_nil, Nat.zero_add]; exact hR a inv h
 | k :: hb, listed, a, inv, hc, hB, h, hR => by
  simp only [hbBy, Bool.and_eq_true] at hB
  obtain ⟨⟨⟨hr, hf⟩, hp⟩, hB'⟩ := hB
  cases h0 : l.toArray[k]? with
  | none => rw [h0] at hp; cases hp
  | some o =>
   rw [h0] at hp
   have hpo : zKt o = true := hp
   rw [zIs hb h0] at h
   have hst : qOp P l.toArray C k (wpQuiet P l.toArray C R (zAb l hb)) a := by unfold qOp; simp only [h0]; exact h
   obtain ⟨v, hy, hK⟩ := yieldsIn_of_qOp h0 hst
   rw [List.length_cons, show hb.length + 1 + f = (hb.length + f) + 1 by omega]
   have hkc := hc k (by simp)
   have hkr : k ∈ Region.ready md l.toArray listed := by simpa using hr
   exact yCm h0 (Region.noSelect_spec hsel) hQ I hI (hw k hkc) (hb.length + f) listed a w inv (Region.free_spec h0 hf) hkr (zXc hpo hy) hC
    (zFq hsel hQ I hI hw hC hb _ _ (hI listed k inv hkr hkc) (fun i hi => hc i (by simp [hi])) hB' hK hR)
theorem zKs (z : List Nat) : ∀ (listed : Array Bool) (k : Nat), k < listed.size → (k ∈ z ∨ listed.getD k false = true) → (zBx listed z).getD k false = true := by
 induction z with
 | nil => intro listed k _ h; rcases h with h | h; cases h; exact h
 | cons i z ih =>
  intro listed k hk h
  refine ih _ k (by simpa using hk) ?_
  rcases h with h | h
  ·rcases List.mem_cons.1 h with rfl | h
   ·right; simp [hk]
   ·exact .inl h
  ·exact .inr (getD_set_true h)
def zVc (al : List Nat) (u : Nat) : Nat := match al with | [] => u | k :: _ => k
def restOf (al : List Nat) (u : Nat) (tl : List Nat) : List Nat := match al with | [] => tl | _ :: al' => al' ++ u :: tl
theorem zNp (al : List Nat) (u : Nat) (tl : List Nat) : zVc al u :: restOf al u tl = al ++ u :: tl := by cases al <;> rfl
def zNy (md : Region.Mode) (ops : Array Oper) (z hb ha al : List Nat) (u : Nat) (tl : List Nat) : Bool :=
 Region.noSelect ops && zGd md ops u (hb ++ ha ++ al) && zHc md ops u tl && zGd md ops (zVc al u) ha && zHc md ops (zVc al u) (restOf al u tl) &&
  (hb ++ ha ++ al).all (fun i => !(u :: tl).contains i) && (hb ++ ha).all (fun i => !al.contains i) && (al ++ u :: tl).all (fun i => decide (i < ops.size)) && z.all (fun i => decide (i < ops.size)) &&
  decide (z.length + (hb.length + (ha.length + (al ++ u :: tl).length)) = ops.size) && (List.range ops.size).all (fun j => z.contains j || (hb ++ ha ++ al).contains j || (u :: tl).contains j) &&
  zBy md ops (al ++ u :: tl) z (Array.replicate ops.size false) && hbBy md ops hb (zBx (Array.replicate ops.size false) z) && zPp md ops (al ++ u :: tl) ha (zBx (zBx (Array.replicate ops.size false) z) hb)
theorem zKz {id : Nat} {a : Act} {w : World} {l : List Oper} (z hb ha al : List Nat) (u : Nat) (tl : List Nat) (hm : P.follows .mixedOrders = true) (hB : zNy .any l.toArray z hb ha al u tl = true) (hQ : ∀ c a d v w, Q (.panic c) (a.put d v) w → Q (.panic c) a w) (hC : C { w with drawn := w.drawn + 1 })
    (h : wpQuiet P l.toArray (fun _ => True) (wpQuiet P l.toArray C (wpQuiet P l.toArray C (fun a' => ∀ w', C w' → wpAl P l.toArray Q C (fun a2 w2 => wpList P l.toArray Q (zAb l (u :: tl)) a2 w2) (zAb l al) a' w') (zAb l ha)) (zAb l hb)) (zAb l z) a) : (Code.region id l.toArray true).wp P Q a w := by
 simp only [zNy, Bool.and_eq_true, decide_eq_true_eq, List.all_eq_true] at hB
 obtain ⟨⟨⟨⟨⟨⟨⟨⟨⟨⟨⟨⟨⟨hsel, hs1⟩, hc1⟩, hs2⟩, hc2⟩, hd1⟩, hd2⟩, hlt⟩, hzlt⟩, hlen⟩, hcov⟩, hz⟩, hhb⟩, hlex⟩ := hB
 have hdis : ∀ k ∈ u :: tl, k ∉ hb ++ ha ++ al := fun k hk hc => by have := hd1 k hc; simp only [Bool.not_eq_true', List.contains_eq_mem, decide_eq_false_iff_not] at this; exact this hk
 have hdis2 : ∀ k ∈ hb ++ ha, k ∉ al ++ u :: tl := fun k hk hc => by
  rcases List.mem_append.1 hc with h1 | h1
  ·have := hd2 k hk; simp only [Bool.not_eq_true', List.contains_eq_mem, decide_eq_false_iff_not] at this; exact this h1
  ·exact hdis k h1 (List.mem_append.2 (.inl hk))
 have inv0 : HeadBy .any l.toArray (al ++ u :: tl) (Array.replicate l.toArray.size false) :=
  ⟨by simp, fun j oj _ hl => (by rw [getD_replicate_false] at hl; cases hl), fun x hx => getD_in (by have := hlt x hx; simpa using this) (getD_replicate_false _ _)⟩
 have inv1 := HeadBy.setAll z _ inv0 hz
 have hI1 : ∀ listed j, (HeadBy .any l.toArray (u :: tl) listed ∧ ∀ k ∈ z, listed.getD k false = true) → j ∈ Region.ready .any l.toArray listed → j ∈ hb ++ ha ++ al → (HeadBy .any l.toArray (u :: tl) (listed.setIfInBounds j true) ∧ ∀ k ∈ z, (listed.setIfInBounds j true).getD k false = true) :=
  fun listed j h hj hc => ⟨h.1.set hj (fun hx => hdis j hx hc), fun k hk => getD_set_true (h.2 k hk)⟩
 have hw1 : ∀ i, i ∈ hb ++ ha ++ al → ∀ listed j, (HeadBy .any l.toArray (u :: tl) listed ∧ ∀ k ∈ z, listed.getD k false = true) → listed.getD i true = false → j ∈ Region.ready .any l.toArray listed → j ∈ hb ++ ha ++ al := by
  intro i hi listed j hI hun hj
  obtain ⟨hjun, oj, hoj, _⟩ := mem_ready.1 hj
  have hjs : j < l.toArray.size := (Array.getElem?_eq_some_iff.1 hoj).1
  have hcj := hcov j (List.mem_range.2 hjs)
  simp only [Bool.or_eq_true, List.contains_eq_mem, decide_eq_true_eq] at hcj
  rcases hcj with (h1 | h1) | h1
  ·have h2 := hI.2 j h1
   rw [getD_both hjun] at h2
   cases h2
  ·exact h1
  ·exfalso
   rcases List.mem_cons.1 h1 with rfl | h2
   ·exact zFx hI.1 _ hs1 i hi hun hj
   ·exact zGo tl u hc1 hI.1.tail j h2 hj
 refine wp_region_any hm ?_
 suffices H2 : wpAny P .any l.toArray Q (z.length + (hb.length + (ha.length + (al ++ u :: tl).length))) (Array.replicate l.toArray.size false) a { w with drawn := w.drawn + 1 } by rw [hlen] at H2; exact H2
 refine zJd hsel hQ z _ a hz h fun a' h' => zEn (C := C) (cal := hb ++ ha ++ al) _ _ _ _ ?_
 have hinv1 : HeadBy .any l.toArray (u :: tl) (zBx (Array.replicate l.toArray.size false) z) := ⟨inv1.size, inv1.closed, fun x hx => inv1.tail x (List.mem_append.2 (.inr hx))⟩
 refine zFq hsel hQ (fun listed => HeadBy .any l.toArray (u :: tl) listed ∧ ∀ k ∈ z, listed.getD k false = true) hI1 hw1 hC hb _ a' ⟨hinv1, fun k hk => zKs z _ k (by have := hzlt k hk; simpa using this) (.inl hk)⟩ (fun i hi => by simp [hi]) hhb h' ?_
 intro a2 hI2 h2
 have inv2 : HeadBy .any l.toArray (al ++ u :: tl) (zBx (zBx (Array.replicate l.toArray.size false) z) hb) := by
  refine ⟨hI2.1.size, hI2.1.closed, fun x hx => ?_⟩
  have hnz : ∀ (hb' : List Nat) (listed : Array Bool), (∀ k ∈ hb', k ≠ x) → listed.getD x true = false → (zBx listed hb').getD x true = false := by
   intro hb'
   induction hb' with
   | nil => intro listed _ h; exact h
   | cons k hb' ih => intro listed hk h; exact ih _ (fun y hy => hk y (by simp [hy])) (by rw [getD_set_ne true (hk k (by simp))]; exact h)
  exact hnz hb _ (fun k hk e => hdis2 k (by simp [hk]) (e ▸ hx)) (inv1.tail x hx)
 rw [← zNp] at inv2 hlex
 have H := zQa (md := .any) (C := C) hsel hc2 ha _ a2 hs2 (fun i hi => by rw [zNp]; exact hdis2 i (by simp [hi])) inv2 hlex h2
 refine zNc (g := (al ++ u :: tl).length) (fun listed a3 w3 hw3 hL => ?_) _ _ _ _ hC H
 have h3 := hL.1
 rw [zNp] at h3
 exact zNg al listed a3 w3 hdis h3 (hL.2 w3 hw3)
theorem zEp {id : Nat} {a : Act} {w : World} {l : List Oper} (z hb ha al : List Nat) (u : Nat) (tl : List Nat) (hm : P.follows .mixedOrders = true) (hB : zNy .any l.toArray z hb ha al u tl = true) (hQ : ∀ c a d v w, Q (.panic c) (a.put d v) w → Q (.panic c) a w)
    (h : wpQuiet P l.toArray (fun _ => True) (wpQuiet P l.toArray (fun w' => ∃ n : Ext w, w' = n.W) (wpQuiet P l.toArray (fun w' => ∃ n : Ext w, w' = n.W) (fun a' => ∀ w', (∃ n : Ext w, w' = n.W) → wpAl P l.toArray Q (fun w' => ∃ n : Ext w, w' = n.W) (fun a2 w2 => wpList P l.toArray Q (zAb l (u :: tl)) a2 w2) (zAb l al) a' w') (zAb l ha)) (zAb l hb)) (zAb l z) a) : (Code.region id l.toArray true).wp P Q a w :=
 zKz z hb ha al u tl hm hB hQ ⟨⟨w.drew, (Below.refl _ w).drew⟩, rfl⟩ h
theorem zCn {id : Nat} {a : Act} {w : World} {l : List Oper} (z hb ha al : List Nat) (u : Nat) (tl : List Nat) (hm : P.follows .mixedOrders = true) (hB : zNy .any l.toArray z hb ha al u tl = true) (hQ : ∀ c a d v w, Q (.panic c) (a.put d v) w → Q (.panic c) a w)
    (h : wpQuiet P l.toArray (fun _ => True) (wpQuiet P l.toArray (fun w' => ∃ n, w' = w.drewN n) (wpQuiet P l.toArray (fun w' => ∃ n, w' = w.drewN n) (fun a' => ∀ w', (∃ n, w' = w.drewN n) → wpAl P l.toArray Q (fun w' => ∃ n, w' = w.drewN n) (fun a2 w2 => wpList P l.toArray Q (zAb l (u :: tl)) a2 w2) (zAb l al) a' w') (zAb l ha)) (zAb l hb)) (zAb l z) a) : (Code.region id l.toArray true).wp P Q a w :=
 zKz z hb ha al u tl hm hB hQ ⟨1, rfl⟩ h
end
end
section
open Go.RowKit
def idxZ (f : Int → Bool) : List Int → Nat → Int
 | [], _ => -1
 | z :: l, k => if f z then k else idxZ f l (k + 1)
theorem zVu (f : Int → Bool) : ∀ (l : List Int) (k : Nat), decide (0 ≤ idxZ f l k) = l.any f
 | [], k => by simp [idxZ]
 | z :: l, k => by
  cases hf : f z with
  | true => simp [idxZ, hf]
  | false => simp only [idxZ, hf, List.any_cons, Bool.false_or]; exact zVu f l (k + 1)
theorem zVd (fn : FuncId) (cap : Array Value) (f : Int → Bool) (A : Option Addr) (n c : Nat) (zs : List Int) (B : Nat) (Inv : World → Prop) (w : World) (hl : zs.length = n) (hm : n ≤ maxLen)
    (hr : ∀ W, Inv W → Reads W B 1 A n (zs.map (.int .i64))) (hI : Inv w)
    (hrun : ∀ args W, (callFunc fn args).run Tryz.prog W = .ok (.enter fn args) W)
    (h : ∀ z W, z ∈ zs → Inv W → Calls Tryz.prog fn (#[.int .i64 z] ++ cap) W fun x w' => x = .returned (.bool (f z)) ∧ Inv w') :
    Calls Tryz.prog 76 #[.slice A n c, .func (.func fn) #[] cap] w fun e w' => e = .returned (.int .i64 (idxZ f zs 0)) ∧ Inv w' := by
 have HR := hide hr
 have HL := hide hl
 have H := hide h
 have HI := hide hI
 unfold maxLen at hm
 clear hr hl h hI
 go_enter Tryz.func76, Tryz.ntmps76
 go_wp2_with fail
 go_loopw [8] (fun i wr => ∃ (k : Nat), k ≤ n ∧ i = .int .i64 k ∧ Hid (Inv wr) ∧ Hid (idxZ f (zs.drop k) k = idxZ f zs 0)) (fun i _ => n - (intOf i).toNat)
 case atStart => exact ⟨0, Nat.zero_le _, rfl, HI, rfl⟩
 case round =>
  obtain ⟨k, hk, rfl, HW, HX⟩ := hrel
  by_cases hlt : k < n
  ·obtain ⟨b, o, z, rfl, hbl, hz, hc⟩ := zDd (zAa HR _ (zAa HW)) hlt
   have HX2 := hide (by have h := zAa HX; rw [zCb zs k z hz, idxZ] at h; exact h)
   have H2 := hide (zAa H z wr (List.mem_of_getElem? hz) (zAa HW))
   clear HX hz
   cases hf : f z with
   | true =>
    have HX3 := hide (by have h := zAa HX2; rw [if_pos hf] at h; exact h)
    rw [hf] at H2
    clear HX2
    go_wp2_with fail
    refine (zAa H2).mono ?_
    rintro _ w2 ⟨rfl, hb2⟩
    have HB2 := hide hb2
    clear hb2
    go_wp2_with fail
    go_ret
    exact ⟨zBn (zAa HX3), zAa HB2⟩
   | false =>
    have HX3 := hide (by have h := zAa HX2; rw [if_neg (by rw [hf]; simp)] at h; exact h)
    rw [hf] at H2
    clear HX2
    go_wp2_with fail
    refine (zAa H2).mono ?_
    rintro _ w2 ⟨rfl, hb2⟩
    have HB2 := hide hb2
    clear hb2
    go_wp2_with fail
    go_roundw
    case rel => exact ⟨k + 1, by omega, by go_num, HB2, zAa HX3⟩
    case measure => simp [intOf]; omega
  ·obtain rfl : k = n := by omega
   have HF := hide (show idxZ f zs 0 = -1 by
    have h := zAa HX
    rw [List.drop_of_length_le (by rw [zAa HL]; exact Nat.le_refl _)] at h
    exact h.symm)
   clear HX
   go_wp2_with fail
   go_ret
   exact ⟨zBn (zAa HF).symm, zAa HW⟩
theorem zHk (fn : FuncId) (cap : Array Value) (f : Int → Bool) (A : Option Addr) (n c : Nat) (zs : List Int) (B : Nat) (Inv : World → Prop) (w : World) (hl : zs.length = n) (hm : n ≤ maxLen)
    (hr : ∀ W, Inv W → Reads W B 1 A n (zs.map (.int .i64))) (hI : Inv w)
    (hrun : ∀ args W, (callFunc fn args).run Tryz.prog W = .ok (.enter fn args) W)
    (h : ∀ z W, z ∈ zs → Inv W → Calls Tryz.prog fn (#[.int .i64 z] ++ cap) W fun x w' => x = .returned (.bool (f z)) ∧ Inv w') :
    Calls Tryz.prog 57 #[.slice A n c, .func (.func fn) #[] cap] w fun e w' => e = .returned (.bool (zs.any f)) ∧ Inv w' := by
 have H := hide (zVd fn cap f A n c zs B Inv w hl hm hr hI hrun h)
 have HF := hide (zVu f zs 0)
 obtain ⟨x, hx⟩ : ∃ x, idxZ f zs 0 = x := ⟨_, rfl⟩
 rw [hx] at H HF
 clear hl hr hI hrun h hm hx
 go_enter Tryz.func57, Tryz.ntmps57
 go_wp2_with fail
 refine (zAa H).mono ?_
 rintro _ w2 ⟨rfl, hb2⟩
 have HB2 := hide hb2
 clear hb2
 go_wp2_with fail
 go_ret
 exact ⟨zAo (by rw [← zAa HF]), zAa HB2⟩
end
section
open Go.RowKit
def szGo : List Int → Int → Int × Int
 | [], b => ((b + 7) / 8, 0)
 | z :: l, b => if z < 1 ∨ 60 < z then (0, 2) else szGo l (b + z)
def zDt (zs : List Int) : Int × Int := if 40 < zs.length then (0, 1) else szGo zs 0
theorem zNj (A : Option Addr) (n c : Nat) (zs : List Int) (B : Nat) (w : World) (hl : zs.length = n) (hm : n ≤ 9223372036854775807) (hr : Reads w B 1 A n (zs.map (.int .i64))) :
    Calls Tryz.prog 124 #[.slice A n c] w fun e w' => e = .returned (.tuple #[.int .i64 (zDt zs).1, .int .i64 (zDt zs).2]) ∧ w = w' := by
 have HR := hide hr
 clear hr
 have HL := hide hl
 clear hl
 by_cases h40 : 40 < n
 ·have HF := hide (show zDt zs = (0, 1) by unfold zDt; rw [zAa HL, if_pos h40])
  go_enter Tryz.func124, Tryz.ntmps124
  go_wp2_with fail
  go_ret2
  exact ⟨by rw [zAa HF]; rfl, rfl⟩
 ·have HF := hide (show zDt zs = szGo zs 0 by unfold zDt; rw [zAa HL, if_neg h40])
  have h40' : n ≤ 40 := by omega
  clear h40
  go_enter Tryz.func124, Tryz.ntmps124
  go_wp2_with fail
  go_loop [4, 12] (fun b i => ∃ (k : Nat) (b0 : Nat), k ≤ n ∧ i = .int .i64 k ∧ b = .int .i64 b0 ∧ b0 ≤ 60 * k ∧ Hid (szGo (zs.drop k) b0 = szGo zs 0)) (fun _ i => n - (intOf i).toNat)
  case atStart => exact ⟨0, 0, Nat.zero_le _, rfl, rfl, by omega, rfl⟩
  case round =>
   obtain ⟨k, b0, hk, rfl, rfl, hb, HI⟩ := hrel
   by_cases hlt : k < n
   ·obtain ⟨ad, u, rfl, _, hz, hc⟩ := at_kind (zAa HR) hlt
    have HI2 := hide (by have h := zAa HI; rw [zCb zs k u hz, szGo] at h; exact h)
    clear HI hz
    by_cases h1 : u < 1 ∨ 60 < u
    ·have HG := hide (by have h := zAa HI2; rw [if_pos h1] at h; exact h)
     clear HI2
     rcases h1 with h1 | h1
     all_goals
      go_wp2_with fail
      go_ret2
      exact ⟨by rw [zAa HF, ← zAa HG]; rfl, rfl⟩
    ·have HG := hide (by have h := zAa HI2; rw [if_neg h1] at h; exact h)
     clear HI2
     obtain ⟨u, rfl⟩ := Int.eq_ofNat_of_zero_le (show 0 ≤ u by omega)
     have h2 : 1 ≤ u := by omega
     have h3 : u ≤ 60 := by omega
     clear h1
     go_wp2_with fail
     go_round
     case rel => exact ⟨k + 1, b0 + u, by omega, by go_num, by go_num, by omega, zAa HG⟩
     case measure => simp [intOf]; omega
   ·obtain rfl : k = n := by omega
    have HG := hide (by have h := zAa HI; rw [List.drop_of_length_le (by rw [zAa HL]; exact Nat.le_refl _), szGo] at h; exact h)
    clear HI
    go_wp2_with fail
    go_ret2
    exact ⟨by rw [zAa HF, ← zAa HG]; rfl, rfl⟩
end
section
open Go.RowKit
theorem yAt (r : Nat) (hr : r ≤ 7) : 2 ^ r ≤ 128 := Nat.le_trans (Nat.pow_le_pow_right (by omega) hr) (by omega)
theorem put_val (old bit r : Nat) (hr : r < 8) (hbit : bit ≤ 1) (hold : old ≤ 255) (hlow : old % 2 ^ (8 - r) = 0) :
    bits .or .u8 (old : Int) (wrap64 ((bit : Int) * 2 ^ (7 - r)) % 256) = ((old + bit * 2 ^ (7 - r) : Nat) : Int) ∧ old + bit * 2 ^ (7 - r) ≤ 255 := by
 have hp := yAt (7 - r) (by omega)
 have hy : bit * 2 ^ (7 - r) ≤ 128 := by
  rcases (show bit = 0 ∨ bit = 1 by omega) with rfl | rfl
  ·simp
  ·simpa using hp
 have e1 : ((bit : Int) * 2 ^ (7 - r)) = ((bit * 2 ^ (7 - r) : Nat) : Int) := by simp
 have e2 : wrap64 ((bit * 2 ^ (7 - r) : Nat) : Int) % 256 = ((bit * 2 ^ (7 - r) : Nat) : Int) := by unfold wrap64; omega
 have hlt : bit * 2 ^ (7 - r) < 2 ^ (8 - r) := by
  have e : 2 ^ (8 - r) = 2 * 2 ^ (7 - r) := by rw [show 8 - r = (7 - r) + 1 from by omega, Nat.pow_succ]; omega
  rw [e]
  have hpos : 0 < 2 ^ (7 - r) := Nat.pow_pos (by omega)
  rcases (show bit = 0 ∨ bit = 1 by omega) with rfl | rfl
  ·simpa using hpos
  ·omega
 have hj := nat_join (8 - r) old (bit * 2 ^ (7 - r)) hlow hlt
 have hor := Nat.or_lt_two_pow (n := 8) (show old < 2 ^ 8 by omega) (show bit * 2 ^ (7 - r) < 2 ^ 8 by omega)
 rw [hj] at hor
 rw [e1, e2, u8_or_nat old _ (by omega) (by omega), hj]
 exact ⟨rfl, by omega⟩
theorem zUp (g h : Nat) (m c at0 bit : Nat) (old : Nat) (w : World) (hw : at0 / 8 < m) (hc : m ≤ c) (hat : at0 ≤ 1000000) (hbit : bit ≤ 1) (hold : old ≤ 255) (hlow : old % 2 ^ (8 - at0 % 8) = 0)
    (c0 : w.cell? ⟨g, 0, none⟩ = some (.slice (some ⟨h, 0, none⟩) m c)) (c1 : w.cell? ⟨g, 1, none⟩ = some (.int .i64 at0)) (c2 : w.cell? ⟨h, at0 / 8, none⟩ = some (.int .u8 old))
    (f1 : w.frozen? ⟨g, 1, none⟩ = false) (f2 : w.frozen? ⟨h, at0 / 8, none⟩ = false) (hgh : h ≠ g) :
    Calls Tryz.prog 125 #[.pointer (some ⟨g, 0, none⟩), .int .i64 bit] w fun e w' => e = .returned (.tuple #[]) ∧
     ((w.setCell ⟨h, at0 / 8, none⟩ (.int .u8 ((old + bit * 2 ^ (7 - at0 % 8) : Nat) : Int))).setCell ⟨g, 1, none⟩ (.int .i64 (at0 + 1))).drew = w' := by
 have hv := (put_val old bit (at0 % 8) (Nat.mod_lt _ (by omega)) hbit hold hlow).1
 go_enter Tryz.func125, Tryz.ntmps125
 go_wp2_with fail
 go_region
 go_wp2
 go_end0
 exact ⟨rfl, rfl⟩
def zCs (bs : List Nat) : Nat → Nat → Nat
 | _, 0 => 0
 | i, k + 1 => 2 * zCs bs i k + bs.getD (i + k) 0
def byteOf (bs : List Nat) (i : Nat) : Nat := zCs bs (8 * i) 8
def bytesOf (bs : List Nat) (n : Nat) : List Int := (List.range n).map fun i => (byteOf bs i : Int)
def zCg (f : Int × Int) : List Nat := (List.range f.1.toNat).map fun k => f.2.toNat / 2 ^ (f.1.toNat - 1 - k) % 2
def zAw (fs : List (Int × Int)) : List Nat := fs.flatMap zCg
def zGs (f : Int × Int) : Bool := decide (0 ≤ f.2 ∧ f.2 < 2 ^ f.1.toNat)
def zEh (fs : List (Int × Int)) : List Int × Int :=
 if (zDt (fs.map (·.1))).2 ≠ 0 then ([], (zDt (fs.map (·.1))).2) else if fs.all zGs then (bytesOf (zAw fs) (zDt (fs.map (·.1))).1.toNat, 0) else ([], 12)
theorem yAv (bs : List Nat) (h : ∀ b ∈ bs, b ≤ 1) (i k : Nat) : zCs bs i k < 2 ^ k := by
 induction k with
 | zero => simp [zCs]
 | succ k ih =>
  have : bs.getD (i + k) 0 ≤ 1 := by
   rw [List.getD_eq_getElem?_getD]
   cases hg : bs[i + k]? with
   | none => simp
   | some b => exact h b (List.mem_of_getElem? hg)
  rw [zCs, Nat.pow_succ]
  omega
theorem zHv (bs : List Nat) (b i k : Nat) (h : i + k ≤ bs.length) : zCs (bs ++ [b]) i k = zCs bs i k := by
 induction k with
 | zero => rfl
 | succ k ih =>
  rw [zCs, zCs, ih (by omega)]
  congr 1
  rw [List.getD_eq_getElem?_getD, List.getD_eq_getElem?_getD, List.getElem?_append_left (by omega)]
theorem zMz (bs : List Nat) (b i k : Nat) (h : bs.length < i) : zCs (bs ++ [b]) i k = zCs bs i k := by
 induction k with
 | zero => rfl
 | succ k ih =>
  rw [zCs, zCs, ih]
  congr 1
  rw [List.getD_eq_getElem?_getD, List.getD_eq_getElem?_getD, List.getElem?_eq_none (by simp; omega), List.getElem?_eq_none (by omega)]
theorem zQp (bs : List Nat) (b i k : Nat) (h : i ≤ bs.length) (h2 : bs.length < i + k) : zCs (bs ++ [b]) i k = zCs bs i k + b * 2 ^ (i + k - 1 - bs.length) := by
 induction k with
 | zero => omega
 | succ k ih =>
  rw [zCs, zCs]
  by_cases he : bs.length = i + k
  ·have g1 : (bs ++ [b]).getD (i + k) 0 = b := by rw [← he]; simp
   have g2 : bs.getD (i + k) 0 = 0 := by rw [List.getD_eq_getElem?_getD, List.getElem?_eq_none (by omega)]; rfl
   rw [zHv bs b i k (by omega), g1, g2, show i + (k + 1) - 1 - bs.length = 0 by omega]
   simp
  ·rw [ih (by omega), List.getD_eq_getElem?_getD, List.getD_eq_getElem?_getD, List.getElem?_eq_none (by simp; omega), List.getElem?_eq_none (by omega)]
   rw [show i + (k + 1) - 1 - bs.length = (i + k - 1 - bs.length) + 1 by omega, Nat.pow_succ, Nat.mul_add]
   simp [Nat.mul_comm, Nat.mul_left_comm]
theorem zXv (bs : List Nat) (i k : Nat) (h : i ≤ bs.length) (h2 : bs.length ≤ i + k) : zCs bs i k % 2 ^ (i + k - bs.length) = 0 := by
 induction k with
 | zero => simp [zCs]
 | succ k ih =>
  by_cases he : bs.length = i + (k + 1)
  ·rw [he]; simp [Nat.mod_one]
  ·rw [zCs, List.getD_eq_getElem?_getD, List.getElem?_eq_none (by omega), show i + (k + 1) - bs.length = (i + k - bs.length) + 1 by omega, Nat.pow_succ]
   have := ih (by omega)
   simp only [Option.getD_none, Nat.add_zero]
   rw [Nat.mul_comm 2, Nat.mul_mod_mul_right, this, Nat.zero_mul]
theorem zUo (bs : List Nat) (b n : Nat) (hn : bs.length / 8 < n) :
    bytesOf (bs ++ [b]) n = (bytesOf bs n).set (bs.length / 8) ((byteOf bs (bs.length / 8) + b * 2 ^ (7 - bs.length % 8) : Nat) : Int) := by
 refine List.ext_getElem (by simp [bytesOf]) fun i h1 h2 => ?_
 simp only [bytesOf, List.getElem_map, List.getElem_range, List.getElem_set]
 by_cases he : bs.length / 8 = i
 ·rw [if_pos he, ← he]
  unfold byteOf
  rw [zQp bs b _ 8 (by omega) (by omega)]
  rw [show 8 * (bs.length / 8) + 8 - 1 - bs.length = 7 - bs.length % 8 by omega]
 ·rw [if_neg he]
  unfold byteOf
  rcases Nat.lt_or_gt_of_ne he with h | h
  ·rw [zMz bs b _ 8 (by omega)]
  ·rw [zHv bs b _ 8 (by omega)]
theorem zZq (bs : List Nat) : byteOf bs (bs.length / 8) % 2 ^ (8 - bs.length % 8) = 0 := by
 have := zXv bs (8 * (bs.length / 8)) 8 (by omega) (by omega)
 rw [show 8 * (bs.length / 8) + 8 - bs.length = 8 - bs.length % 8 by omega] at this
 exact this
theorem zNi (bs : List Nat) (h : ∀ b ∈ bs, b ≤ 1) (i : Nat) : byteOf bs i ≤ 255 := by
 have := yAv bs h (8 * i) 8
 unfold byteOf
 omega
theorem zXf (n : Nat) : bytesOf [] n = List.replicate n 0 := by
 refine List.ext_getElem (by simp [bytesOf]) fun i h1 h2 => ?_
 simp [bytesOf, byteOf, zCs]
theorem zNs (f : Int × Int) : ∀ b ∈ zCg f, b ≤ 1 := by
 intro b hb
 simp only [zCg, List.mem_map] at hb
 obtain ⟨k, _, rfl⟩ := hb
 omega
theorem zJh (fs : List (Int × Int)) : ∀ b ∈ zAw fs, b ≤ 1 := by
 intro b hb
 simp only [zAw, List.mem_flatMap] at hb
 obtain ⟨f, _, hf⟩ := hb
 exact zNs f b hf
theorem zFv (f : Int × Int) : (zCg f).length = f.1.toNat := by simp [zCg]
end
section
open Go.RowKit
def zIf (f : Int × Int) : List Value := [.int .i64 f.1, .int .i64 f.2]
theorem zNd (f : Int × Int) : (zIf f).length = 2 := rfl
def zLe (fs : List (Int × Int)) (k : Nat) : List Value := ((fs.take k).map (·.1)).map (Value.int .i64)
theorem zXn (fs : List (Int × Int)) (k : Nat) (f : Int × Int) (h : fs[k]? = some f) : zLe fs (k + 1) = zLe fs k ++ [.int .i64 f.1] := by
 simp [zLe, zBp fs k f h]
theorem yBm (fs : List (Int × Int)) : zLe fs fs.length = (fs.map (·.1)).map (Value.int .i64) := by simp [zLe]
theorem zWi : (Tryz.prog.info? 3).map (fun i => (i.zero, i.size, i.bytes)) = some (some (.int .i64 0), 1, 8) := by kernel_rfl
theorem info_u8 : (Tryz.prog.info? 5).map (fun i => (i.zero, i.size, i.bytes)) = some (some (.int .u8 0), 1, 1) := by kernel_rfl
theorem szGo_ok (zs : List Int) (b N : Nat) (h : szGo zs b = ((N : Int), 0)) : (∀ z ∈ zs, 1 ≤ z ∧ z ≤ 60) ∧ N = (b + (zs.map Int.toNat).sum + 7) / 8 := by
 induction zs generalizing b with
 | nil => simp only [szGo, Prod.mk.injEq] at h; exact ⟨by simp, by simp; omega⟩
 | cons z l ih =>
  rw [szGo] at h
  by_cases h1 : z < 1 ∨ 60 < z
  ·rw [if_pos h1] at h; simp at h
  ·rw [if_neg h1] at h
   obtain ⟨z, rfl⟩ := Int.eq_ofNat_of_zero_le (show 0 ≤ z by omega)
   have := ih (b + z) (by rw [← h]; simp)
   refine ⟨fun y hy => ?_, by rw [this.2]; simp; omega⟩
   rcases List.mem_cons.1 hy with rfl | hy
   ·omega
   ·exact this.1 y hy
theorem zZy (zs : List Int) (b : Nat) : szGo zs b = (0, 2) ∨ ∃ N : Nat, szGo zs b = ((N : Int), 0) := by
 induction zs generalizing b with
 | nil => exact .inr ⟨(b + 7) / 8, by simp [szGo]⟩
 | cons z l ih =>
  rw [szGo]
  by_cases h1 : z < 1 ∨ 60 < z
  ·exact .inl (by rw [if_pos h1])
  ·rw [if_neg h1]
   obtain ⟨z, rfl⟩ := Int.eq_ofNat_of_zero_le (show 0 ≤ z by omega)
   exact ih (b + z)
theorem zOl (zs : List Int) : (zDt zs = (0, 1)) ∨ (zDt zs = (0, 2)) ∨ ∃ N : Nat, zDt zs = ((N : Int), 0) ∧ zs.length ≤ 40 ∧ (∀ z ∈ zs, 1 ≤ z ∧ z ≤ 60) ∧ N = ((zs.map Int.toNat).sum + 7) / 8 := by
 unfold zDt
 by_cases h : 40 < zs.length
 ·exact .inl (by rw [if_pos h])
 ·rw [if_neg h]
  rcases zZy zs 0 with h1 | ⟨N, h1⟩
  ·exact .inr (.inl h1)
  ·have := szGo_ok zs 0 N h1
   exact .inr (.inr ⟨N, h1, by omega, this.1, by simpa using this.2⟩)
theorem zOp (fs : List (Int × Int)) : (zAw fs).length = ((fs.map (·.1)).map Int.toNat).sum := by
 induction fs with
 | nil => rfl
 | cons f l ih =>
  have : zAw (f :: l) = zCg f ++ zAw l := by simp [zAw]
  rw [this, List.length_append, ih, zFv]
  simp
theorem zNq (fs : List (Int × Int)) (k : Nat) (f : Int × Int) (h : fs[k]? = some f) : zAw (fs.take (k + 1)) = zAw (fs.take k) ++ zCg f := by
 rw [zBp fs k f h]; simp [zAw]
theorem zQe (fs : List (Int × Int)) (k : Nat) : (zAw (fs.take k)).length ≤ (zAw fs).length := by
 have e : zAw fs = zAw (fs.take k) ++ zAw (fs.drop k) := by
  unfold zAw
  rw [← List.flatMap_append, List.take_append_drop]
 rw [e, List.length_append]
 omega
theorem sum_le (zs : List Int) (h : ∀ z ∈ zs, 1 ≤ z ∧ z ≤ 60) : (zs.map Int.toNat).sum ≤ 60 * zs.length := by
 induction zs with
 | nil => simp
 | cons z l ih =>
  have h1 := h z (by simp)
  have h2 := ih (fun y hy => h y (by simp [hy]))
  simp only [List.map_cons, List.sum_cons, List.length_cons]
  omega
theorem zRl (w : Nat) (v : Nat) (t : Nat) (ht : t < w) : (zCg ((w : Int), (v : Int))).take (t + 1) = (zCg ((w : Int), (v : Int))).take t ++ [v / 2 ^ (w - 1 - t) % 2] := by
 refine zBp _ t _ ?_
 simp [zCg, ht]
def PackAt (W w : World) (g h N : Nat) (bs : List Nat) : Prop :=
 Below W.heap.size W w ∧ W.heap.size ≤ h ∧ g = h + 1 ∧ Blk w g 208 #[.slice (some ⟨h, 0, none⟩) N N, .int .i64 bs.length] ∧ Blk w h 5 ((bytesOf bs N).map (Value.int .u8)).toArray
theorem PackAt.put {W w : World} {g h N : Nat} {bs : List Nat} (H : PackAt W w g h N bs) (b : Nat) (hn : bs.length / 8 < N) :
    PackAt W (((w.setCell ⟨h, bs.length / 8, none⟩ (.int .u8 ((byteOf bs (bs.length / 8) + b * 2 ^ (7 - bs.length % 8) : Nat) : Int))).setCell ⟨g, 1, none⟩ (.int .i64 (bs.length + 1))).drew) g h N (bs ++ [b]) := by
 obtain ⟨hb, hh, rfl, h1, h2⟩ := H
 have h1' := ((h1.far (p := ⟨h, bs.length / 8, none⟩) (by simp) (.int .u8 ((byteOf bs (bs.length / 8) + b * 2 ^ (7 - bs.length % 8) : Nat) : Int))).set_ 1 (.int .i64 (bs.length + 1))).drew
 have h2' := ((h2.set_ (bs.length / 8) (.int .u8 ((byteOf bs (bs.length / 8) + b * 2 ^ (7 - bs.length % 8) : Nat) : Int))).far (p := ⟨h + 1, 1, none⟩) (by simp) (.int .i64 (bs.length + 1))).drew
 refine ⟨((hb.setCell (by simpa using hh) _).setCell (by simp; omega) _).drew, hh, rfl, ?_, ?_⟩
 ·simpa using h1'
 ·rw [zUo bs b N hn]
  have e : (((bytesOf bs N).set (bs.length / 8) ((byteOf bs (bs.length / 8) + b * 2 ^ (7 - bs.length % 8) : Nat) : Int)).map (Value.int .u8)).toArray =
      (((bytesOf bs N).map (Value.int .u8)).toArray).setIfInBounds (bs.length / 8) (.int .u8 ((byteOf bs (bs.length / 8) + b * 2 ^ (7 - bs.length % 8) : Nat) : Int)) := by
   simp [List.map_set]
  rw [e]
  exact h2'
theorem PackAt.alloc {W w : World} {g h N : Nat} {bs : List Nat} (H : PackAt W w g h N bs) (o : Obj) : PackAt W (w.alloc o) g h N bs :=
 ⟨H.1.alloc H.1.size o, H.2.1, H.2.2.1, H.2.2.2.1.alloc o, H.2.2.2.2.alloc o⟩
theorem shr_and1 (v j : Nat) (hv : v ≤ 9223372036854775807) : bits .and .i64 ((v : Int) / 2 ^ j) 1 = ((v / 2 ^ j % 2 : Nat) : Int) := by
 have e : ((v:Int) / 2 ^ j) = ((v / 2 ^ j : Nat) : Int) := by simp
 have hd : v / 2 ^ j ≤ v := Nat.div_le_self _ _
 rw [e, show (1:Int) = ((1:Nat):Int) from rfl, zFj _ _ (by omega) (by omega), Nat.and_one_is_mod]
theorem zQr {wd : Nat} (h : wd ≤ 60) : 2 ^ wd ≤ 1152921504606846976 := Nat.le_trans (Nat.pow_le_pow_right (by omega) h) (by omega)
theorem PackAt.reads {W w : World} {g h N : Nat} {bs : List Nat} (H : PackAt W w g h N bs) (hn : bs.length / 8 < N) :
    w.cell? ⟨g, 0, none⟩ = some (.slice (some ⟨h, 0, none⟩) N N) ∧ w.cell? ⟨g, 1, none⟩ = some (.int .i64 bs.length) ∧ w.cell? ⟨h, bs.length / 8, none⟩ = some (.int .u8 (byteOf bs (bs.length / 8))) ∧
     w.frozen? ⟨g, 1, none⟩ = false ∧ w.frozen? ⟨h, bs.length / 8, none⟩ = false ∧ h ≠ g := by
 obtain ⟨hb, hh, rfl, h1, h2⟩ := H
 refine ⟨by rw [h1.cell]; rfl, by rw [h1.cell]; rfl, ?_, h1.frozen 1, h2.frozen _, by omega⟩
 rw [h2.cell]
 simp [bytesOf, hn]
def But2 (w w' : World) (g h : Nat) : Prop := w'.heap.size = w.heap.size ∧ ∀ b, b ≠ g → b ≠ h → w'.heap[b]? = w.heap[b]?
theorem But2.blk {w w' : World} {g h b : Nat} {t : TypeId} {cs : Array Value} (H : But2 w w' g h) (hb : Blk w b t cs) (hg : b ≠ g) (hh : b ≠ h) : Blk w' b t cs := (H.2 b hg hh).trans hb
theorem zWw (W w : World) (g h N bit : Nat) (bs : List Nat) (H : PackAt W w g h N bs) (hn : bs.length / 8 < N) (hat : bs.length ≤ 1000000) (hbit : bit ≤ 1) (hle : ∀ b ∈ bs, b ≤ 1) :
    Calls Tryz.prog 125 #[.pointer (some ⟨g, 0, none⟩), .int .i64 bit] w fun e w' => e = .returned (.tuple #[]) ∧ PackAt W w' g h N (bs ++ [bit]) ∧ But2 w w' g h := by
 obtain ⟨d0, d1, d2, e1, e2, e3⟩ := H.reads hn
 refine (zUp g h N N bs.length bit (byteOf bs (bs.length / 8)) w hn (Nat.le_refl _) hat hbit (zNi _ hle _) (zZq _) d0 d1 d2 e1 e2 e3).mono ?_
 rintro e w' ⟨rfl, rfl⟩
 refine ⟨rfl, H.put bit hn, by simp [World.setCell, World.drew], fun b hg hh => ?_⟩
 exact (Below.heap_setCell _ _ _ _ (by simpa using hg)).trans (Below.heap_setCell _ _ _ _ (by simpa using hh))
end
end Go.Proofs.YtbolcebmbpepdaaGreatDoor
