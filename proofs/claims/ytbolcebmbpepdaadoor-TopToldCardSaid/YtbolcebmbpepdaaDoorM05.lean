/- Contracts and plain facts, set together by program out of smaller texts. Conditions: none beyond what each theorem states. -/
import Derived.OrdersHeld
import Derived.Test.YtbolcebmbpepdaaDoorM04
namespace Go.Proofs.YtbolcebmbpepdaaDoor
set_option linter.unusedVariables false
section
open Go.RowKit
section
variable {P : Program} {ops : Array Oper} {md : Region.Mode} {C : World → Prop}
/-- each of 'hd' is waited for by one behind it in 'hd', or by 't' -/
def sinkBy (md : Region.Mode) (ops : Array Oper) (t : Nat) : List Nat → Bool
  | [] => true
  | i :: hd => (hd.any (fun j => Region.waitsFor md ops j i) || Region.waitsFor md ops t i) && sinkBy md ops t hd
def chainBy (md : Region.Mode) (ops : Array Oper) : Nat → List Nat → Bool
  | _, [] => true
  | t, u :: tl => Region.waitsFor md ops u t && chainBy md ops u tl
structure HeadBy (md : Region.Mode) (ops : Array Oper) (tl : List Nat) (listed : Array Bool) : Prop where
  size : listed.size = ops.size
  closed : ∀ j oj, ops[j]? = some oj → listed.getD j false = true → ∀ e ∈ oj.after, Region.binds md e = true → listed.getD e.on false = true
  tail : ∀ t ∈ tl, listed.getD t true = false
theorem HeadBy.set {tl : List Nat} {i : Nat} {listed : Array Bool} (inv : HeadBy md ops tl listed) (hi : i ∈ Region.ready md ops listed) (hin : i ∉ tl) : HeadBy md ops tl (listed.setIfInBounds i true) := by
  obtain ⟨_, oi, hoi, hall⟩ := mem_ready.1 hi
  refine ⟨by simp [inv.size], fun j oj hj hl e he hb => ?_, fun t ht => by
    have hne : i ≠ t := fun e => hin (by rw [e]; exact ht)
    rw [getD_set_ne true hne]; exact inv.tail t ht⟩
  by_cases hij : i = j
  · subst hij
    have : oj = oi := Option.some.inj (hj.symm.trans hoi)
    subst this
    exact getD_set_true (hall e he hb)
  · rw [getD_set_ne false hij] at hl
    exact getD_set_true (inv.closed j oj hj hl e he hb)
theorem first_waits {t : Nat} {tl : List Nat} {listed : Array Bool} (inv : HeadBy md ops (t :: tl) listed) : ∀ (hd : List Nat), sinkBy md ops t hd = true → ∀ i ∈ hd, listed.getD i true = false → t ∉ Region.ready md ops listed := by
  intro hd
  induction hd with
  | nil => intro _ i hi; cases hi
  | cons k hd ih =>
    intro hs i hi hun hr
    simp only [sinkBy, Bool.and_eq_true, Bool.or_eq_true] at hs
    rcases List.mem_cons.1 hi with rfl | hi
    · rcases hs.1 with h1 | h1
      · obtain ⟨j, hj, hw⟩ := List.any_eq_true.1 h1
        obtain ⟨oj, hoj, e, he, hb, hon⟩ := Region.waitsFor_spec hw
        cases hl : listed.getD j false with
        | true =>
          have h2 := inv.closed j oj hoj hl e he hb
          rw [hon, getD_both hun] at h2
          cases h2
        | false =>
          have hjs : j < listed.size := by rw [inv.size]; exact (Array.getElem?_eq_some_iff.1 hoj).1
          exact ih hs.2 j hj (getD_in hjs hl) hr
      · obtain ⟨_, ot, hot, hall⟩ := mem_ready.1 hr
        obtain ⟨o', ho', e, he, hb, hon⟩ := Region.waitsFor_spec h1
        have : o' = ot := Option.some.inj (ho'.symm.trans hot)
        subst this
        have h2 := hall e he hb
        rw [hon, getD_both hun] at h2
        cases h2
    · exact ih hs.2 i hi hun hr
theorem chain_waits {listed : Array Bool} : ∀ (tl : List Nat) (t : Nat), chainBy md ops t tl = true → (∀ u ∈ t :: tl, listed.getD u true = false) → ∀ u ∈ tl, u ∉ Region.ready md ops listed := by
  intro tl
  induction tl with
  | nil => intro t _ _ u hu; cases hu
  | cons v tl ih =>
    intro t hc hun u hu hr
    simp only [chainBy, Bool.and_eq_true] at hc
    rcases List.mem_cons.1 hu with rfl | hu
    · obtain ⟨_, ot, hot, hall⟩ := mem_ready.1 hr
      obtain ⟨o', ho', e, he, hb, hon⟩ := Region.waitsFor_spec hc.1
      have : o' = ot := Option.some.inj (ho'.symm.trans hot)
      subst this
      have h2 := hall e he hb
      rw [hon, getD_both (hun t (by simp))] at h2
      cases h2
    · exact ih v hc.2 (fun x hx => hun x (by simp [List.mem_cons.1 hx])) u hu hr
def wpAnyB (P : Program) (md : Region.Mode) (ops : Array Oper) (C : World → Prop) (tl : List Nat) (L : Array Bool → Act → Prop) : Nat → Array Bool → Act → Prop
  | 0, listed, a => L listed a
  | f + 1, listed, a =>
    Region.ready md ops listed ≠ [] ∧ ∀ i ∈ Region.ready md ops listed, i ∉ tl ∧ qOp P ops C i (wpAnyB P md ops C tl L f (listed.setIfInBounds i true)) a
theorem wpAnyB_first {t : Nat} {hd tl : List Nat} {i : Nat} {oi : Oper} {v : Value} {L : Array Bool → Act → Prop} (hi : ops[i]? = some oi) (hsel : ∀ (j : Nat) (o : Oper) cs b, ops[j]? = some o → o.op ≠ .select cs b)
    (hs : sinkBy md ops t hd = true) (hc : chainBy md ops t tl = true) (hih : i ∈ hd) (hit : i ∉ t :: tl)
    (hdone : ∀ listed a, L listed a → ∀ j ∈ Region.ready md ops listed, j ∈ t :: tl) :
    ∀ (f : Nat) (listed : Array Bool) (a : Act), HeadBy md ops (t :: tl) listed →
      (∀ j oj, ops[j]? = some oj → j ≠ i → listed.getD j true = false → (∀ e ∈ oj.after, Region.binds md e = true → e.on ≠ i) → oi.apart ops oj = true) →
      i ∈ Region.ready md ops listed → YieldsIn P ops C oi v a →
      wpAnyB P md ops C (t :: tl) L f (listed.setIfInBounds i true) (a.put oi.dst v) → wpAnyB P md ops C (t :: tl) L (f + 1) listed a := by
  intro f
  induction f with
  | zero =>
    intro listed a inv _ hr hy H
    have hun := (mem_ready.1 hr).1
    refine ⟨fun h => (by rw [h] at hr; cases hr), fun j hj => ?_⟩
    have hjn : j ∉ t :: tl := fun hjt => by
      rcases List.mem_cons.1 hjt with rfl | h
      · exact first_waits inv hd hs i hih hun hj
      · exact chain_waits tl t hc inv.tail j h hj
    refine ⟨hjn, ?_⟩
    by_cases hji : j = i
    · subst hji; exact hy.qOp hi H
    · exact absurd (hdone _ _ H j (ready_mono hj hji)) hjn
  | succ f ih =>
    intro listed a inv hfree hr hy H
    have hun := (mem_ready.1 hr).1
    refine ⟨fun h => (by rw [h] at hr; cases hr), fun j hj => ?_⟩
    have hjn : j ∉ t :: tl := fun hjt => by
      rcases List.mem_cons.1 hjt with rfl | h
      · exact first_waits inv hd hs i hih hun hj
      · exact chain_waits tl t hc inv.tail j h hj
    refine ⟨hjn, ?_⟩
    by_cases hji : j = i
    · subst hji; exact hy.qOp hi H
    · have h1 := (H.2 j (ready_mono hj hji)).2
      obtain ⟨hjun, oj, hoj, hall⟩ := mem_ready.1 hj
      have hnot : ∀ e ∈ oj.after, Region.binds md e = true → e.on ≠ i := fun e he hb heq => by
        have h1 := hall e he hb
        rw [heq, getD_both hun] at h1
        cases h1
      have h2 := qOp_put hoj (hfree j oj hoj hji hjun hnot) (fun cs b => hsel i oi cs b hi) (fun cs b => hsel j oj cs b hoj) hy h1
      have hfree' : ∀ k ok, ops[k]? = some ok → k ≠ i → (listed.setIfInBounds j true).getD k true = false →
          (∀ e ∈ ok.after, Region.binds md e = true → e.on ≠ i) → oi.apart ops ok = true := fun k ok hk hki hun hno => by
        refine hfree k ok hk hki ?_ hno
        by_cases hjk : j = k
        · subst hjk; exact hjun
        · rw [getD_set_ne true hjk] at hun; exact hun
      refine qOp_mono (fun a' h3 => ih (listed.setIfInBounds j true) a' (inv.set hj hjn) hfree' (ready_mono hr (Ne.symm hji)) h3.1 ?_) h2
      rw [Array.setIfInBounds_comm _ _ hji]
      exact h3.2
def seqBy (md : Region.Mode) (ops : Array Oper) : List Nat → Array Bool → Bool
  | [], listed => (Region.ready md ops listed).isEmpty
  | k :: tl, listed => decide (Region.ready md ops listed = [k]) && (ops[k]?).isSome && seqBy md ops tl (listed.setIfInBounds k true)
def pickOps (ops : List Oper) (is : List Nat) : List Oper := is.map fun i => ops.getD i ⟨none, .move (.const undef), 0, "", #[], none⟩
def lexBy (md : Region.Mode) (ops : Array Oper) (tl : List Nat) : List Nat → Array Bool → Bool
  | [], listed => seqBy md ops tl listed
  | k :: hd, listed => (Region.ready md ops listed).contains k && Region.free md ops listed k && (ops[k]?).isSome && lexBy md ops tl hd (listed.setIfInBounds k true)
/-- an operation that is no call, stores nothing -/
def plainOp (o : Oper) : Bool :=
  match o.op with
  | .move _ | .assign _ | .nilCheck _ | .fieldAddr .. => true
  | _ => false
theorem plainOp_value {o : Oper} (h : plainOp o = true) {ρ : Operand → Value} {w w' : World} {n : Next} (hr : (execOp ρ o).run P w = .ok n w') : ∃ u, n = .value u := by
  unfold plainOp at h
  unfold execOp at hr
  split at h
  · rename_i x ho
    simp only [ho] at hr
    simp at hr
    exact ⟨_, hr.1.symm⟩
  · rename_i x ho
    simp only [ho] at hr
    simp at hr
    exact ⟨_, hr.1.symm⟩
  · rename_i x ho
    simp only [ho] at hr
    have hnil : ∀ (w w' : World) (n : Next), ¬ (runtimePanic (α := Next) RuntimeError.nilDeref).run P w = .ok n w' := fun w w' n h => by simp [runtimePanic, goPanic] at h
    split at hr
    · exact absurd hr (hnil _ _ _)
    · exact absurd hr (hnil _ _ _)
    · exact absurd hr (hnil _ _ _)
    · split at hr
      · exact absurd hr (hnil _ _ _)
      · simp only [Sem.run_bind] at hr
        rename_i t wv _
        cases h1 : (program).run P w with
        | halt c w2 => rw [h1] at hr; simp at hr
        | ok u w2 =>
          rw [h1] at hr
          simp only [Result.andThen_ok] at hr
          cases h2 : (nilAhead (u.types.size + Made.depth) t wv _).run P w2 with
          | halt c w3 => rw [h2] at hr; simp at hr
          | ok u3 w3 =>
            rw [h2] at hr
            simp only [Result.andThen_ok] at hr
            split at hr
            · simp only [Sem.run_bind] at hr
              generalize Sem.run P (unsupported _) w3 = r at hr
              cases r with
              | halt c w4 => simp at hr
              | ok u4 w4 => simp at hr; exact ⟨_, hr.1.symm⟩
            · simp at hr
              exact ⟨_, hr.1.symm⟩
      · simp at hr
        exact ⟨_, hr.1.symm⟩
    · simp at hr
      exact ⟨_, hr.1.symm⟩
  · rename_i x y z ho
    simp only [ho, Sem.run_bind] at hr
    cases hq : (Instr.fieldAt x (ρ y) z).run P w with
    | ok u w2 => rw [hq] at hr; simp at hr; exact ⟨_, hr.1.symm⟩
    | halt c w2 => rw [hq] at hr; simp at hr
  · cases h
def zBy (md : Region.Mode) (ops : Array Oper) (out : List Nat) : List Nat → Array Bool → Bool
  | [], _ => true
  | k :: z, listed => (Region.ready md ops listed).contains k && Region.free md ops listed k && (match ops[k]? with | some o => plainOp o | none => false) && !out.contains k && zBy md ops out z (listed.setIfInBounds k true)
def setAll (listed : Array Bool) : List Nat → Array Bool
  | [] => listed
  | k :: z => setAll (listed.setIfInBounds k true) z
theorem seqBy_ready {tl : List Nat} {listed : Array Bool} (h : seqBy md ops tl listed = true) : ∀ j ∈ Region.ready md ops listed, j ∈ tl := by
  cases tl with
  | nil => intro j hj; simp only [seqBy, List.isEmpty_iff] at h; rw [h] at hj; cases hj
  | cons k tl =>
    intro j hj
    simp only [seqBy, Bool.and_eq_true, decide_eq_true_eq] at h
    rw [h.1.1] at hj
    have : j = k := by simpa using hj
    rw [this]; simp
theorem wpAnyB_lex {l : List Oper} {t : Nat} {tl : List Nat} {Lq : Act → Prop} (hsel : Region.noSelect l.toArray = true) (hc : chainBy md l.toArray t tl = true) :
    ∀ (hd : List Nat) (listed : Array Bool) (a : Act), sinkBy md l.toArray t hd = true → (∀ i ∈ hd, i ∉ t :: tl) → HeadBy md l.toArray (t :: tl) listed →
    lexBy md l.toArray (t :: tl) hd listed = true → wpQuiet P l.toArray C Lq (pickOps l hd) a →
    wpAnyB P md l.toArray C (t :: tl) (fun listed' a' => seqBy md l.toArray (t :: tl) listed' = true ∧ Lq a') hd.length listed a
  | [], listed, a, _, _, _, hB, h => ⟨by simpa [lexBy] using hB, h⟩
  | k :: hd, listed, a, hs, hdis, inv, hB, h => by
    simp only [lexBy, Bool.and_eq_true] at hB
    obtain ⟨⟨⟨hr, hf⟩, hsome⟩, hB'⟩ := hB
    obtain ⟨o, h0⟩ := Option.isSome_iff_exists.1 hsome
    have hp : pickOps l (k :: hd) = o :: pickOps l hd := by
      have : l[k]? = some o := by simpa using h0
      simp [pickOps, List.getD_eq_getElem?_getD, this]
    rw [hp] at h
    have hr' : k ∈ Region.ready md l.toArray listed := by simpa using hr
    have hst : qOp P l.toArray C k (wpQuiet P l.toArray C Lq (pickOps l hd)) a := by unfold qOp; simp only [h0]; exact h
    obtain ⟨v, hy, hK⟩ := yieldsIn_of_qOp h0 hst
    have hs' : sinkBy md l.toArray t hd = true := by simp only [sinkBy, Bool.and_eq_true] at hs; exact hs.2
    exact wpAnyB_first h0 (Region.noSelect_spec hsel) hs hc (by simp) (hdis k (by simp)) (fun listed' a' hL => seqBy_ready hL.1) hd.length listed a inv (Region.free_spec h0 hf) hr' hy
      (wpAnyB_lex hsel hc hd _ _ hs' (fun i hi => hdis i (by simp [hi])) (inv.set hr' (hdis k (by simp))) hB' hK)
theorem HeadBy.setAll {tl : List Nat} : ∀ (z : List Nat) (listed : Array Bool), HeadBy md ops tl listed → zBy md ops tl z listed = true → HeadBy md ops tl (setAll listed z)
  | [], _, inv, _ => inv
  | k :: z, listed, inv, h => by
    simp only [zBy, Bool.and_eq_true] at h
    obtain ⟨⟨⟨⟨hr, _⟩, _⟩, hk⟩, h'⟩ := h
    exact HeadBy.setAll z _ (inv.set (by simpa using hr) (by simpa using hk)) h'
theorem yields_of_plain {o : Oper} {v : Value} {a : Act} (hp : plainOp o = true) (hy : YieldsIn P ops (fun _ => True) o v a) : Yields P ops o v a := by
  rcases hy with ⟨hw, hv⟩ | h
  · refine .inl ⟨hw, fun w => ?_⟩
    have h1 := hv w trivial
    unfold Oper.quietAt at h1
    cases hr : (execOp a.eval o).run P w with
    | ok n w' =>
      obtain ⟨u, rfl⟩ := plainOp_value hp hr
      rw [hr] at h1
      simp only [Oper.quietUpon] at h1
      rw [h1.1, h1.2]
    | halt c w' => rw [hr] at h1; simp only [Oper.quietUpon] at h1
  · exact .inr h
theorem wpAny_of_z {l : List Oper} {Q : Exit → Act → World → Prop} {out : List Nat} {f : Nat} {w : World} {R : Act → Prop} (hsel : Region.noSelect l.toArray = true) (hQ : ∀ c a d v w, Q (.panic c) (a.put d v) w → Q (.panic c) a w) :
    ∀ (z : List Nat) (listed : Array Bool) (a : Act), zBy md l.toArray out z listed = true → wpQuiet P l.toArray (fun _ => True) R (pickOps l z) a → (∀ a', R a' → wpAny P md l.toArray Q f (setAll listed z) a' w) → wpAny P md l.toArray Q (z.length + f) listed a w
  | [], listed, a, _, h, hR => by rw [List.length_nil, Nat.zero_add]; exact hR a h
  | k :: z, listed, a, hB, h, hR => by
    simp only [zBy, Bool.and_eq_true] at hB
    obtain ⟨⟨⟨⟨hr, hf⟩, hp⟩, _⟩, hB'⟩ := hB
    cases h0 : l.toArray[k]? with
    | none => rw [h0] at hp; cases hp
    | some o =>
      rw [h0] at hp
      have hpo : plainOp o = true := hp
      have hpk : pickOps l (k :: z) = o :: pickOps l z := by
        have : l[k]? = some o := by simpa using h0
        simp [pickOps, List.getD_eq_getElem?_getD, this]
      rw [hpk] at h
      have hst : qOp P l.toArray (fun _ => True) k (wpQuiet P l.toArray (fun _ => True) R (pickOps l z)) a := by unfold qOp; simp only [h0]; exact h
      obtain ⟨v, hy, hK⟩ := yieldsIn_of_qOp h0 hst
      rw [List.length_cons, show z.length + 1 + f = (z.length + f) + 1 by omega]
      exact wpAny_take h0 hsel hf hr (fun c a w => hQ c a _ _ w) (yields_of_plain hpo hy) (wpAny_of_z hsel hQ z _ _ hB' hK hR)
end
end
section
open Go.RowKit
section
variable {P : Program} {ops : Array Oper} {Q : Exit → Act → World → Prop} {md : Region.Mode} {C : World → Prop}
/-- whatever order is picked; behind each operation of 'cal' the world is of the class -/
def wpS (P : Program) (md : Region.Mode) (ops : Array Oper) (Q : Exit → Act → World → Prop) (C : World → Prop) (cal : List Nat) : Nat → Array Bool → Act → World → Prop
  | 0, listed, a, w => Region.ready md ops listed = [] ∧ Q .normal a w
  | f + 1, listed, a, w =>
    (Region.ready md ops listed = [] → Q .normal a w) ∧
    ∀ i ∈ Region.ready md ops listed, wpOp P ops Q i (fun a' w' => (i ∈ cal → C w') ∧ wpS P md ops Q C cal f (listed.setIfInBounds i true) a' w') a w
theorem wpAny_of_wpS {cal : List Nat} : ∀ (f : Nat) (listed : Array Bool) (a : Act) (w : World), wpS P md ops Q C cal f listed a w → wpAny P md ops Q f listed a w
  | 0, _, _, _, h => h
  | f + 1, _, _, _, h => ⟨h.1, fun i hi => wpOp_mono (fun a' w' h' => wpAny_of_wpS f _ a' w' h'.2) (h.2 i hi)⟩
theorem wpS_first {cal : List Nat} {i : Nat} {oi : Oper} {v : Value} (hi : ops[i]? = some oi) (hsel : ∀ (j : Nat) (o : Oper) cs b, ops[j]? = some o → o.op ≠ .select cs b)
    (hQ : ∀ c a d v w, Q (.panic c) (a.put d v) w → Q (.panic c) a w) (I : Array Bool → Prop) (hI : ∀ listed j, I listed → j ∈ Region.ready md ops listed → j ∈ cal → I (listed.setIfInBounds j true))
    (hw : ∀ listed j, I listed → listed.getD i true = false → j ∈ Region.ready md ops listed → j ∈ cal) :
    ∀ (f : Nat) (listed : Array Bool) (a : Act) (w : World), I listed →
      (∀ j oj, ops[j]? = some oj → j ≠ i → listed.getD j true = false → (∀ e ∈ oj.after, Region.binds md e = true → e.on ≠ i) → oi.apart ops oj = true) →
      i ∈ Region.ready md ops listed → YieldsIf P ops C oi v a → C w →
      wpS P md ops Q C cal f (listed.setIfInBounds i true) (a.put oi.dst v) w → wpS P md ops Q C cal (f + 1) listed a w := by
  intro f
  induction f with
  | zero =>
    intro listed a w _ _ hr hy hS H
    refine ⟨fun h => (by rw [h] at hr; cases hr), fun j hj => ?_⟩
    by_cases hji : j = i
    · subst hji; exact hy.wpOp hi hS ⟨fun _ => hS, H⟩
    · have h2 := ready_mono hj hji
      rw [H.1] at h2
      cases h2
  | succ f ih =>
    intro listed a w inv hfree hr hy hS H
    have hun := (mem_ready.1 hr).1
    refine ⟨fun h => (by rw [h] at hr; cases hr), fun j hj => ?_⟩
    by_cases hji : j = i
    · subst hji; exact hy.wpOp hi hS ⟨fun _ => hS, H⟩
    · have h1 := H.2 j (ready_mono hj hji)
      have hjc := hw listed j inv hun hj
      obtain ⟨hjun, oj, hoj, hall⟩ := mem_ready.1 hj
      have hnot : ∀ e ∈ oj.after, Region.binds md e = true → e.on ≠ i := fun e he hb heq => by
        have h1 := hall e he hb
        rw [heq, getD_both hun] at h1
        cases h1
      have h2 := wpOp_putIf hoj (hfree j oj hoj hji hjun hnot) (fun cs b => hsel i oi cs b hi) (fun cs b => hsel j oj cs b hoj) (fun c a w => hQ c a _ _ w) hy h1
      refine wpOp_mono (fun a' w' h3 => ⟨fun _ => h3.2.1 hjc, ih (listed.setIfInBounds j true) a' w' (hI listed j inv hj hjc) ?_ (ready_mono hr (Ne.symm hji)) h3.1 (h3.2.1 hjc) ?_⟩) h2
      · intro k ok hk hki hku hno
        refine hfree k ok hk hki ?_ hno
        by_cases hjk : j = k
        · subst hjk; exact hjun
        · rw [getD_set_ne true hjk] at hku; exact hku
      · rw [Array.setIfInBounds_comm _ _ hji]
        exact h3.2.2
/-- the calm operations of the tail: behind each the world is of the class -/
def wpAl (P : Program) (ops : Array Oper) (Q : Exit → Act → World → Prop) (C : World → Prop) (K : Act → World → Prop) : List Oper → Act → World → Prop
  | [], a, w => K a w
  | o :: al, a, w => wpList P ops (fun e a' w' => match e with | .normal => C w' ∧ wpAl P ops Q C K al a' w' | e => Q e a' w') [o] a w
theorem wpOp_of_single {l : List Oper} {k : Nat} {o : Oper} {K : Act → World → Prop} {a : Act} {w : World} (h0 : l.toArray[k]? = some o)
    (h : wpList P l.toArray (fun e a' w' => match e with | .normal => K a' w' | e => Q e a' w') [o] a w) : wpOp P l.toArray Q k K a w := by
  have h1 : wpOp P l.toArray (fun e a' w' => match e with | .normal => K a' w' | e => Q e a' w') k K a w := by
    unfold wpOp
    simp only [h0]
    exact h
  unfold wpOp at h1 ⊢
  simp only [h0] at h1 ⊢
  split
  · rename_i hw
    simp only [hw, if_true] at h1
    rcases h1 with h1 | h1
    · refine .inl ?_
      unfold Oper.wp at h1 ⊢
      generalize (execOp a.eval o).run P w = r at *
      cases r with
      | ok n w' =>
        cases n <;> simp only [Oper.upon] at h1 ⊢ <;> first | exact h1 | (refine Calls.mono h1 fun e w'' he => ?_; cases e <;> first | exact he | trivial) | skip
      | halt x w' => cases x <;> simp only [Oper.upon] at h1 ⊢ <;> first | exact h1 | skip
    · exact .inr h1
  · rename_i hw
    simp only [hw] at h1
    exact h1
theorem wpS_of_headB {cal tlA : List Nat} {g : Nat} {L : Array Bool → Act → Prop} (hL : ∀ listed a w, C w → L listed a → wpS P md ops Q C cal g listed a w) :
    ∀ (f : Nat) (listed : Array Bool) (a : Act) (w : World), C w → wpAnyB P md ops C tlA L f listed a → wpS P md ops Q C cal (f + g) listed a w
  | 0, listed, a, w, hw, h => by rw [Nat.zero_add]; exact hL _ _ _ hw h
  | f + 1, listed, a, w, hw, h => by
    rw [show f + 1 + g = (f + g) + 1 by omega]
    exact ⟨fun h0 => absurd h0 h.1, fun i hi => wpOp_of_qOp hw (fun a' w' hw' h' => ⟨fun _ => hw', wpS_of_headB hL f _ a' w' hw' h'⟩) (h.2 i hi).2⟩
theorem pick_cons {l : List Oper} {k : Nat} {o : Oper} (is : List Nat) (h : l.toArray[k]? = some o) : pickOps l (k :: is) = o :: pickOps l is := by
  have : l[k]? = some o := by simpa using h
  simp [pickOps, List.getD_eq_getElem?_getD, this]
theorem wpS_of_tl {l : List Oper} {cal : List Nat} : ∀ (tl : List Nat) (listed : Array Bool) (a : Act) (w : World), (∀ k ∈ tl, k ∉ cal) →
    seqBy md l.toArray tl listed = true → wpList P l.toArray Q (pickOps l tl) a w → wpS P md l.toArray Q C cal tl.length listed a w
  | [], _, _, _, _, hB, h => ⟨by simpa [seqBy] using hB, h⟩
  | k :: tl, listed, a, w, hd, hB, h => by
    simp only [seqBy, Bool.and_eq_true, decide_eq_true_eq] at hB
    obtain ⟨⟨hr, hsome⟩, hB'⟩ := hB
    refine ⟨fun h1 => (by rw [hr] at h1; cases h1), fun i hi => ?_⟩
    rw [hr] at hi
    have hik : i = k := by simpa using hi
    subst hik
    obtain ⟨o, ho⟩ := Option.isSome_iff_exists.1 hsome
    rw [pick_cons tl ho] at h
    have hw : wpOp P l.toArray Q i (wpList P l.toArray Q (pickOps l tl)) a w := by unfold wpOp; simp only [ho]; exact h
    exact wpOp_mono (fun a' w' h' => ⟨fun hc => absurd hc (hd i (by simp)), wpS_of_tl tl _ a' w' (fun k hk => hd k (by simp [hk])) hB' h'⟩) hw
theorem wpS_of_al {l : List Oper} {cal : List Nat} {tl : List Nat} : ∀ (al : List Nat) (listed : Array Bool) (a : Act) (w : World), (∀ k ∈ tl, k ∉ cal) →
    seqBy md l.toArray (al ++ tl) listed = true → wpAl P l.toArray Q C (fun a2 w2 => wpList P l.toArray Q (pickOps l tl) a2 w2) (pickOps l al) a w → wpS P md l.toArray Q C cal (al ++ tl).length listed a w
  | [], _, _, _, hd, hB, h => wpS_of_tl tl _ _ _ hd hB h
  | k :: al, listed, a, w, hd, hB, h => by
    rw [List.cons_append] at hB ⊢
    simp only [seqBy, Bool.and_eq_true, decide_eq_true_eq] at hB
    obtain ⟨⟨hr, hsome⟩, hB'⟩ := hB
    refine ⟨fun h1 => (by rw [hr] at h1; cases h1), fun i hi => ?_⟩
    rw [hr] at hi
    have hik : i = k := by simpa using hi
    subst hik
    obtain ⟨o, ho⟩ := Option.isSome_iff_exists.1 hsome
    rw [pick_cons al ho] at h
    exact wpOp_mono (fun a' w' h' => ⟨fun _ => h'.1, wpS_of_al al _ a' w' hd hB' h'.2⟩) (wpOp_of_single ho h)
/-- an operation that yields a value and calls nothing -/
def stillOp (o : Oper) : Bool :=
  plainOp o || (match o.op with
  | .pick .. | .build .. | .load .. | .binOp .. | .unOp .. | .convert .. | .slice .. | .field .. | .indexAddr .. | .index .. | .extract .. => true
  | .call { callee := .builtin .len, .. } => true
  | _ => false)
theorem value_of_bind {s : Sem Value} {w w' : World} {n : Next} (h : (do let x ← s; pure (Next.value x) : Sem Next).run P w = .ok n w') : ∃ u, n = .value u := by
  simp only [Sem.run_bind] at h
  cases hq : s.run P w with
  | ok u w2 => rw [hq] at h; simp at h; exact ⟨_, h.1.symm⟩
  | halt c w2 => rw [hq] at h; simp at h
theorem stillOp_value {o : Oper} (h : stillOp o = true) {ρ : Operand → Value} {w w' : World} {n : Next} (hr : (execOp ρ o).run P w = .ok n w') : ∃ u, n = .value u := by
  unfold stillOp at h
  rcases Bool.or_eq_true _ _ ▸ h with h | h
  · exact plainOp_value h hr
  · unfold execOp at hr
    split at h
    · rename_i c x y ho
      simp only [ho, Sem.run_bind] at hr
      cases hq : (asBool (ρ c)).run P w with
      | ok u w2 => rw [hq] at hr; simp at hr; exact ⟨_, hr.1.symm⟩
      | halt c w2 => rw [hq] at hr; simp at hr
    all_goals first
      | (rename_i ho; simp only [ho] at hr; exact value_of_bind hr)
      | (cases h; done)
theorem if_of_still {o : Oper} {v : Value} {a : Act} (hp : stillOp o = true) (hy : YieldsIn P ops C o v a) : YieldsIf P ops C o v a := by
  rcases hy with ⟨hw, hv⟩ | h
  · refine .inl ⟨hw, fun w hc => ?_⟩
    have h1 := hv w hc
    unfold Oper.quietAt at h1
    cases hr : (execOp a.eval o).run P w with
    | ok n w' =>
      obtain ⟨u, rfl⟩ := stillOp_value hp hr
      rw [hr] at h1
      simp only [Oper.quietUpon] at h1
      rw [h1.1, h1.2]
    | halt c w' => rw [hr] at h1; simp only [Oper.quietUpon] at h1
  · exact .inr h
def hbBy (md : Region.Mode) (ops : Array Oper) : List Nat → Array Bool → Bool
  | [], _ => true
  | k :: hb, listed => (Region.ready md ops listed).contains k && Region.free md ops listed k && (match ops[k]? with | some o => stillOp o | none => false) && hbBy md ops hb (listed.setIfInBounds k true)
theorem wpS_of_hb {l : List Oper} {cal : List Nat} {f : Nat} {w : World} {R : Act → Prop} (hsel : Region.noSelect l.toArray = true) (hQ : ∀ c a d v w, Q (.panic c) (a.put d v) w → Q (.panic c) a w)
    (I : Array Bool → Prop) (hI : ∀ listed j, I listed → j ∈ Region.ready md l.toArray listed → j ∈ cal → I (listed.setIfInBounds j true))
    (hw : ∀ i, i ∈ cal → ∀ listed j, I listed → listed.getD i true = false → j ∈ Region.ready md l.toArray listed → j ∈ cal) (hC : C w) :
    ∀ (hb : List Nat) (listed : Array Bool) (a : Act), I listed → (∀ i ∈ hb, i ∈ cal) → hbBy md l.toArray hb listed = true → wpQuiet P l.toArray C R (pickOps l hb) a →
      (∀ a', I (setAll listed hb) → R a' → wpS P md l.toArray Q C cal f (setAll listed hb) a' w) → wpS P md l.toArray Q C cal (hb.length + f) listed a w
  | [], listed, a, inv, _, _, h, hR => by rw [List.length_nil, Nat.zero_add]; exact hR a inv h
  | k :: hb, listed, a, inv, hc, hB, h, hR => by
    simp only [hbBy, Bool.and_eq_true] at hB
    obtain ⟨⟨⟨hr, hf⟩, hp⟩, hB'⟩ := hB
    cases h0 : l.toArray[k]? with
    | none => rw [h0] at hp; cases hp
    | some o =>
      rw [h0] at hp
      have hpo : stillOp o = true := hp
      rw [pick_cons hb h0] at h
      have hst : qOp P l.toArray C k (wpQuiet P l.toArray C R (pickOps l hb)) a := by unfold qOp; simp only [h0]; exact h
      obtain ⟨v, hy, hK⟩ := yieldsIn_of_qOp h0 hst
      rw [List.length_cons, show hb.length + 1 + f = (hb.length + f) + 1 by omega]
      have hkc := hc k (by simp)
      have hkr : k ∈ Region.ready md l.toArray listed := by simpa using hr
      exact wpS_first h0 (Region.noSelect_spec hsel) hQ I hI (hw k hkc) (hb.length + f) listed a w inv (Region.free_spec h0 hf) hkr (if_of_still hpo hy) hC
        (wpS_of_hb hsel hQ I hI hw hC hb _ _ (hI listed k inv hkr hkc) (fun i hi => hc i (by simp [hi])) hB' hK hR)
theorem setAll_true (z : List Nat) : ∀ (listed : Array Bool) (k : Nat), k < listed.size → (k ∈ z ∨ listed.getD k false = true) → (setAll listed z).getD k false = true := by
  induction z with
  | nil => intro listed k _ h; rcases h with h | h; cases h; exact h
  | cons i z ih =>
    intro listed k hk h
    refine ih _ k (by simpa using hk) ?_
    rcases h with h | h
    · rcases List.mem_cons.1 h with rfl | h
      · right; simp [hk]
      · exact .inl h
    · exact .inr (getD_set_true h)
/-- the first of the tail behind the calls -/
def headOf (al : List Nat) (u : Nat) : Nat := match al with | [] => u | k :: _ => k
def restOf (al : List Nat) (u : Nat) (tl : List Nat) : List Nat := match al with | [] => tl | _ :: al' => al' ++ u :: tl
theorem head_rest (al : List Nat) (u : Nat) (tl : List Nat) : headOf al u :: restOf al u tl = al ++ u :: tl := by cases al <;> rfl
def fullB (md : Region.Mode) (ops : Array Oper) (z hb ha al : List Nat) (u : Nat) (tl : List Nat) : Bool :=
  Region.noSelect ops && sinkBy md ops u (hb ++ ha ++ al) && chainBy md ops u tl && sinkBy md ops (headOf al u) ha && chainBy md ops (headOf al u) (restOf al u tl) &&
    (hb ++ ha ++ al).all (fun i => !(u :: tl).contains i) && (hb ++ ha).all (fun i => !al.contains i) && (al ++ u :: tl).all (fun i => decide (i < ops.size)) && z.all (fun i => decide (i < ops.size)) &&
    decide (z.length + (hb.length + (ha.length + (al ++ u :: tl).length)) = ops.size) && (List.range ops.size).all (fun j => z.contains j || (hb ++ ha ++ al).contains j || (u :: tl).contains j) &&
    zBy md ops (al ++ u :: tl) z (Array.replicate ops.size false) && hbBy md ops hb (setAll (Array.replicate ops.size false) z) && lexBy md ops (al ++ u :: tl) ha (setAll (setAll (Array.replicate ops.size false) z) hb)
theorem wp_region_full {id : Nat} {a : Act} {w : World} {l : List Oper} (z hb ha al : List Nat) (u : Nat) (tl : List Nat) (hm : P.follows .mixedOrders = true) (hB : fullB .any l.toArray z hb ha al u tl = true) (hQ : ∀ c a d v w, Q (.panic c) (a.put d v) w → Q (.panic c) a w) (hC : C { w with drawn := w.drawn + 1 })
    (h : wpQuiet P l.toArray (fun _ => True) (wpQuiet P l.toArray C (wpQuiet P l.toArray C (fun a' => ∀ w', C w' → wpAl P l.toArray Q C (fun a2 w2 => wpList P l.toArray Q (pickOps l (u :: tl)) a2 w2) (pickOps l al) a' w') (pickOps l ha)) (pickOps l hb)) (pickOps l z) a) : (Code.region id l.toArray true).wp P Q a w := by
  simp only [fullB, Bool.and_eq_true, decide_eq_true_eq, List.all_eq_true] at hB
  obtain ⟨⟨⟨⟨⟨⟨⟨⟨⟨⟨⟨⟨⟨hsel, hs1⟩, hc1⟩, hs2⟩, hc2⟩, hd1⟩, hd2⟩, hlt⟩, hzlt⟩, hlen⟩, hcov⟩, hz⟩, hhb⟩, hlex⟩ := hB
  have hdis : ∀ k ∈ u :: tl, k ∉ hb ++ ha ++ al := fun k hk hc => by have := hd1 k hc; simp only [Bool.not_eq_true', List.contains_eq_mem, decide_eq_false_iff_not] at this; exact this hk
  have hdis2 : ∀ k ∈ hb ++ ha, k ∉ al ++ u :: tl := fun k hk hc => by
    rcases List.mem_append.1 hc with h1 | h1
    · have := hd2 k hk; simp only [Bool.not_eq_true', List.contains_eq_mem, decide_eq_false_iff_not] at this; exact this h1
    · exact hdis k h1 (List.mem_append.2 (.inl hk))
  have inv0 : HeadBy .any l.toArray (al ++ u :: tl) (Array.replicate l.toArray.size false) :=
    ⟨by simp, fun j oj _ hl => (by rw [getD_replicate_false] at hl; cases hl), fun x hx => getD_in (by have := hlt x hx; simpa using this) (getD_replicate_false _ _)⟩
  have inv1 := HeadBy.setAll z _ inv0 hz
  have hI1 : ∀ listed j, (HeadBy .any l.toArray (u :: tl) listed ∧ ∀ k ∈ z, listed.getD k false = true) → j ∈ Region.ready .any l.toArray listed → j ∈ hb ++ ha ++ al → (HeadBy .any l.toArray (u :: tl) (listed.setIfInBounds j true) ∧ ∀ k ∈ z, (listed.setIfInBounds j true).getD k false = true) :=
    fun listed j h hj hc => ⟨h.1.set hj (fun hx => hdis j hx hc), fun k hk => getD_set_true (h.2 k hk)⟩
  have hw1 : ∀ i, i ∈ hb ++ ha ++ al → ∀ listed j, (HeadBy .any l.toArray (u :: tl) listed ∧ ∀ k ∈ z, listed.getD k false = true) → listed.getD i true = false → j ∈ Region.ready .any l.toArray listed → j ∈ hb ++ ha ++ al := by
    intro i hi listed j hI hun hj
    obtain ⟨hjun, oj, hoj, _⟩ := mem_ready.1 hj
    have hjs : j < l.toArray.size := (Array.getElem?_eq_some_iff.1 hoj).1
    have hcj := hcov j (List.mem_range.2 hjs)
    simp only [Bool.or_eq_true, List.contains_eq_mem, decide_eq_true_eq] at hcj
    rcases hcj with (h1 | h1) | h1
    · have h2 := hI.2 j h1
      rw [getD_both hjun] at h2
      cases h2
    · exact h1
    · exfalso
      rcases List.mem_cons.1 h1 with rfl | h2
      · exact first_waits hI.1 _ hs1 i hi hun hj
      · exact chain_waits tl u hc1 hI.1.tail j h2 hj
  refine wp_region_any hm ?_
  suffices H2 : wpAny P .any l.toArray Q (z.length + (hb.length + (ha.length + (al ++ u :: tl).length))) (Array.replicate l.toArray.size false) a { w with drawn := w.drawn + 1 } by rw [hlen] at H2; exact H2
  refine wpAny_of_z hsel hQ z _ a hz h fun a' h' => wpAny_of_wpS (C := C) (cal := hb ++ ha ++ al) _ _ _ _ ?_
  have hinv1 : HeadBy .any l.toArray (u :: tl) (setAll (Array.replicate l.toArray.size false) z) := ⟨inv1.size, inv1.closed, fun x hx => inv1.tail x (List.mem_append.2 (.inr hx))⟩
  refine wpS_of_hb hsel hQ (fun listed => HeadBy .any l.toArray (u :: tl) listed ∧ ∀ k ∈ z, listed.getD k false = true) hI1 hw1 hC hb _ a' ⟨hinv1, fun k hk => setAll_true z _ k (by have := hzlt k hk; simpa using this) (.inl hk)⟩ (fun i hi => by simp [hi]) hhb h' ?_
  intro a2 hI2 h2
  have inv2 : HeadBy .any l.toArray (al ++ u :: tl) (setAll (setAll (Array.replicate l.toArray.size false) z) hb) := by
    refine ⟨hI2.1.size, hI2.1.closed, fun x hx => ?_⟩
    have hnz : ∀ (hb' : List Nat) (listed : Array Bool), (∀ k ∈ hb', k ≠ x) → listed.getD x true = false → (setAll listed hb').getD x true = false := by
      intro hb'
      induction hb' with
      | nil => intro listed _ h; exact h
      | cons k hb' ih => intro listed hk h; exact ih _ (fun y hy => hk y (by simp [hy])) (by rw [getD_set_ne true (hk k (by simp))]; exact h)
    exact hnz hb _ (fun k hk e => hdis2 k (by simp [hk]) (e ▸ hx)) (inv1.tail x hx)
  rw [← head_rest] at inv2 hlex
  have H := wpAnyB_lex (md := .any) (C := C) hsel hc2 ha _ a2 hs2 (fun i hi => by rw [head_rest]; exact hdis2 i (by simp [hi])) inv2 hlex h2
  refine wpS_of_headB (g := (al ++ u :: tl).length) (fun listed a3 w3 hw3 hL => ?_) _ _ _ _ hC H
  have h3 := hL.1
  rw [head_rest] at h3
  exact wpS_of_al al listed a3 w3 hdis h3 (hL.2 w3 hw3)
theorem wp_region_calm_full {id : Nat} {a : Act} {w : World} {l : List Oper} (z hb ha al : List Nat) (u : Nat) (tl : List Nat) (hm : P.follows .mixedOrders = true) (hB : fullB .any l.toArray z hb ha al u tl = true) (hQ : ∀ c a d v w, Q (.panic c) (a.put d v) w → Q (.panic c) a w)
    (h : wpQuiet P l.toArray (fun _ => True) (wpQuiet P l.toArray (fun w' => ∃ n : Ext w, w' = n.W) (wpQuiet P l.toArray (fun w' => ∃ n : Ext w, w' = n.W) (fun a' => ∀ w', (∃ n : Ext w, w' = n.W) → wpAl P l.toArray Q (fun w' => ∃ n : Ext w, w' = n.W) (fun a2 w2 => wpList P l.toArray Q (pickOps l (u :: tl)) a2 w2) (pickOps l al) a' w') (pickOps l ha)) (pickOps l hb)) (pickOps l z) a) : (Code.region id l.toArray true).wp P Q a w :=
  wp_region_full z hb ha al u tl hm hB hQ ⟨⟨w.drew, (Below.refl _ w).drew⟩, rfl⟩ h
theorem wp_region_draw_full {id : Nat} {a : Act} {w : World} {l : List Oper} (z hb ha al : List Nat) (u : Nat) (tl : List Nat) (hm : P.follows .mixedOrders = true) (hB : fullB .any l.toArray z hb ha al u tl = true) (hQ : ∀ c a d v w, Q (.panic c) (a.put d v) w → Q (.panic c) a w)
    (h : wpQuiet P l.toArray (fun _ => True) (wpQuiet P l.toArray (fun w' => ∃ n, w' = w.drewN n) (wpQuiet P l.toArray (fun w' => ∃ n, w' = w.drewN n) (fun a' => ∀ w', (∃ n, w' = w.drewN n) → wpAl P l.toArray Q (fun w' => ∃ n, w' = w.drewN n) (fun a2 w2 => wpList P l.toArray Q (pickOps l (u :: tl)) a2 w2) (pickOps l al) a' w') (pickOps l ha)) (pickOps l hb)) (pickOps l z) a) : (Code.region id l.toArray true).wp P Q a w :=
  wp_region_full z hb ha al u tl hm hB hQ ⟨1, rfl⟩ h
end
end
end Go.Proofs.YtbolcebmbpepdaaDoor
