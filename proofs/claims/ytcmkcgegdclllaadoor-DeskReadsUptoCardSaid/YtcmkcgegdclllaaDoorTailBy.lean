/- A region that draws its order: first the operations 'hd', which only read or call what leaves all that was there (whatever order), then the operations 'tl', one behind the other. Conditions: none beyond what each theorem states. -/
import Derived.Test.YtcmkcgegdclllaaDoorCalmTail
namespace Go.Proofs.YtcmkcgegdclllaaDoor
open Go.RowKit

section
variable {P : Program} {ops : Array Oper} {md : Region.Mode} {C : World → Prop}
/-- each of 'hd' is waited for by one behind it in 'hd', or by 't' -/
def sinkBy (md : Region.Mode) (ops : Array Oper) (t : Nat) : List Nat → Bool
  | [] => true
  | i :: hd => (hd.any (fun j => Region.waitsFor md ops j i) || Region.waitsFor md ops t i) && sinkBy md ops t hd
def chainBy (md : Region.Mode) (ops : Array Oper) : Nat → List Nat → Bool
  | _, [] => true
  | t, u :: tl => Region.waitsFor md ops u t && chainBy md ops u tl
structure HeadBy (md : Region.Mode) (ops : Array Oper) (tl : List Nat) (listed : Array Bool) : Prop where
  size : listed.size = ops.size
  closed : ∀ j oj, ops[j]? = some oj → listed.getD j false = true → ∀ e ∈ oj.after, Region.binds md e = true → listed.getD e.on false = true
  tail : ∀ t ∈ tl, listed.getD t true = false
theorem HeadBy.set {tl : List Nat} {i : Nat} {listed : Array Bool} (inv : HeadBy md ops tl listed) (hi : i ∈ Region.ready md ops listed) (hin : i ∉ tl) : HeadBy md ops tl (listed.setIfInBounds i true) := by
  obtain ⟨_, oi, hoi, hall⟩ := mem_ready.1 hi
  refine ⟨by simp [inv.size], fun j oj hj hl e he hb => ?_, fun t ht => by
    have hne : i ≠ t := fun e => hin (by rw [e]; exact ht)
    rw [getD_set_ne true hne]; exact inv.tail t ht⟩
  by_cases hij : i = j
  · subst hij
    have : oj = oi := Option.some.inj (hj.symm.trans hoi)
    subst this
    exact getD_set_true (hall e he hb)
  · rw [getD_set_ne false hij] at hl
    exact getD_set_true (inv.closed j oj hj hl e he hb)
theorem first_waits {t : Nat} {tl : List Nat} {listed : Array Bool} (inv : HeadBy md ops (t :: tl) listed) : ∀ (hd : List Nat), sinkBy md ops t hd = true → ∀ i ∈ hd, listed.getD i true = false → t ∉ Region.ready md ops listed := by
  intro hd
  induction hd with
  | nil => intro _ i hi; cases hi
  | cons k hd ih =>
    intro hs i hi hun hr
    simp only [sinkBy, Bool.and_eq_true, Bool.or_eq_true] at hs
    rcases List.mem_cons.1 hi with rfl | hi
    · rcases hs.1 with h1 | h1
      · obtain ⟨j, hj, hw⟩ := List.any_eq_true.1 h1
        obtain ⟨oj, hoj, e, he, hb, hon⟩ := Region.waitsFor_spec hw
        cases hl : listed.getD j false with
        | true =>
          have h2 := inv.closed j oj hoj hl e he hb
          rw [hon, getD_both hun] at h2
          cases h2
        | false =>
          have hjs : j < listed.size := by rw [inv.size]; exact (Array.getElem?_eq_some_iff.1 hoj).1
          exact ih hs.2 j hj (getD_in hjs hl) hr
      · obtain ⟨_, ot, hot, hall⟩ := mem_ready.1 hr
        obtain ⟨o', ho', e, he, hb, hon⟩ := Region.waitsFor_spec h1
        have : o' = ot := Option.some.inj (ho'.symm.trans hot)
        subst this
        have h2 := hall e he hb
        rw [hon, getD_both hun] at h2
        cases h2
    · exact ih hs.2 i hi hun hr
theorem chain_waits {listed : Array Bool} : ∀ (tl : List Nat) (t : Nat), chainBy md ops t tl = true → (∀ u ∈ t :: tl, listed.getD u true = false) → ∀ u ∈ tl, u ∉ Region.ready md ops listed := by
  intro tl
  induction tl with
  | nil => intro t _ _ u hu; cases hu
  | cons v tl ih =>
    intro t hc hun u hu hr
    simp only [chainBy, Bool.and_eq_true] at hc
    rcases List.mem_cons.1 hu with rfl | hu
    · obtain ⟨_, ot, hot, hall⟩ := mem_ready.1 hr
      obtain ⟨o', ho', e, he, hb, hon⟩ := Region.waitsFor_spec hc.1
      have : o' = ot := Option.some.inj (ho'.symm.trans hot)
      subst this
      have h2 := hall e he hb
      rw [hon, getD_both (hun t (by simp))] at h2
      cases h2
    · exact ih v hc.2 (fun x hx => hun x (by simp [List.mem_cons.1 hx])) u hu hr
def wpAnyB (P : Program) (md : Region.Mode) (ops : Array Oper) (C : World → Prop) (tl : List Nat) (L : Array Bool → Act → Prop) : Nat → Array Bool → Act → Prop
  | 0, listed, a => L listed a
  | f + 1, listed, a =>
    Region.ready md ops listed ≠ [] ∧ ∀ i ∈ Region.ready md ops listed, i ∉ tl ∧ qOp P ops C i (wpAnyB P md ops C tl L f (listed.setIfInBounds i true)) a
theorem wpAny_of_headB {tl : List Nat} {g : Nat} {L : Array Bool → Act → Prop} {Q' : Exit → Act → World → Prop} (hL : ∀ listed a w, C w → L listed a → wpAny P md ops Q' g listed a w) :
    ∀ (f : Nat) (listed : Array Bool) (a : Act) (w : World), C w → wpAnyB P md ops C tl L f listed a → wpAny P md ops Q' (f + g) listed a w
  | 0, listed, a, w, hw, h => by rw [Nat.zero_add]; exact hL _ _ _ hw h
  | f + 1, listed, a, w, hw, h => by
    rw [show f + 1 + g = (f + g) + 1 by omega]
    exact ⟨fun h0 => absurd h0 h.1, fun i hi => wpOp_of_qOp hw (fun a' w' hw' h' => wpAny_of_headB hL f _ a' w' hw' h') (h.2 i hi).2⟩
theorem wpAnyB_first {t : Nat} {hd tl : List Nat} {i : Nat} {oi : Oper} {v : Value} {L : Array Bool → Act → Prop} (hi : ops[i]? = some oi) (hsel : ∀ (j : Nat) (o : Oper) cs b, ops[j]? = some o → o.op ≠ .select cs b)
    (hs : sinkBy md ops t hd = true) (hc : chainBy md ops t tl = true) (hih : i ∈ hd) (hit : i ∉ t :: tl)
    (hdone : ∀ listed a, L listed a → ∀ j ∈ Region.ready md ops listed, j ∈ t :: tl) :
    ∀ (f : Nat) (listed : Array Bool) (a : Act), HeadBy md ops (t :: tl) listed →
      (∀ j oj, ops[j]? = some oj → j ≠ i → listed.getD j true = false → (∀ e ∈ oj.after, Region.binds md e = true → e.on ≠ i) → oi.apart ops oj = true) →
      i ∈ Region.ready md ops listed → YieldsIn P ops C oi v a →
      wpAnyB P md ops C (t :: tl) L f (listed.setIfInBounds i true) (a.put oi.dst v) → wpAnyB P md ops C (t :: tl) L (f + 1) listed a := by
  intro f
  induction f with
  | zero =>
    intro listed a inv _ hr hy H
    have hun := (mem_ready.1 hr).1
    refine ⟨fun h => (by rw [h] at hr; cases hr), fun j hj => ?_⟩
    have hjn : j ∉ t :: tl := fun hjt => by
      rcases List.mem_cons.1 hjt with rfl | h
      · exact first_waits inv hd hs i hih hun hj
      · exact chain_waits tl t hc inv.tail j h hj
    refine ⟨hjn, ?_⟩
    by_cases hji : j = i
    · subst hji; exact hy.qOp hi H
    · exact absurd (hdone _ _ H j (ready_mono hj hji)) hjn
  | succ f ih =>
    intro listed a inv hfree hr hy H
    have hun := (mem_ready.1 hr).1
    refine ⟨fun h => (by rw [h] at hr; cases hr), fun j hj => ?_⟩
    have hjn : j ∉ t :: tl := fun hjt => by
      rcases List.mem_cons.1 hjt with rfl | h
      · exact first_waits inv hd hs i hih hun hj
      · exact chain_waits tl t hc inv.tail j h hj
    refine ⟨hjn, ?_⟩
    by_cases hji : j = i
    · subst hji; exact hy.qOp hi H
    · have h1 := (H.2 j (ready_mono hj hji)).2
      obtain ⟨hjun, oj, hoj, hall⟩ := mem_ready.1 hj
      have hnot : ∀ e ∈ oj.after, Region.binds md e = true → e.on ≠ i := fun e he hb heq => by
        have h1 := hall e he hb
        rw [heq, getD_both hun] at h1
        cases h1
      have h2 := qOp_put hoj (hfree j oj hoj hji hjun hnot) (fun cs b => hsel i oi cs b hi) (fun cs b => hsel j oj cs b hoj) hy h1
      have hfree' : ∀ k ok, ops[k]? = some ok → k ≠ i → (listed.setIfInBounds j true).getD k true = false →
          (∀ e ∈ ok.after, Region.binds md e = true → e.on ≠ i) → oi.apart ops ok = true := fun k ok hk hki hun hno => by
        refine hfree k ok hk hki ?_ hno
        by_cases hjk : j = k
        · subst hjk; exact hjun
        · rw [getD_set_ne true hjk] at hun; exact hun
      refine qOp_mono (fun a' h3 => ih (listed.setIfInBounds j true) a' (inv.set hj hjn) hfree' (ready_mono hr (Ne.symm hji)) h3.1 ?_) h2
      rw [Array.setIfInBounds_comm _ _ hji]
      exact h3.2
def seqBy (md : Region.Mode) (ops : Array Oper) : List Nat → Array Bool → Bool
  | [], listed => (Region.ready md ops listed).isEmpty
  | k :: tl, listed => decide (Region.ready md ops listed = [k]) && (ops[k]?).isSome && seqBy md ops tl (listed.setIfInBounds k true)
def pickOps (ops : List Oper) (is : List Nat) : List Oper := is.map fun i => ops.getD i ⟨none, .move (.const undef), 0, "", #[], none⟩
theorem wpAny_of_seqBy {l : List Oper} {Q' : Exit → Act → World → Prop} : ∀ (tl : List Nat) (listed : Array Bool) (a : Act) (w : World),
    seqBy md l.toArray tl listed = true → wpList P l.toArray Q' (pickOps l tl) a w → wpAny P md l.toArray Q' tl.length listed a w
  | [], _, _, _, hB, h => ⟨by simpa [seqBy] using hB, h⟩
  | k :: tl, listed, a, w, hB, h => by
    simp only [seqBy, Bool.and_eq_true, decide_eq_true_eq] at hB
    obtain ⟨⟨hr, hsome⟩, hB'⟩ := hB
    refine ⟨fun h1 => (by rw [hr] at h1; cases h1), fun i hi => ?_⟩
    rw [hr] at hi
    have hik : i = k := by simpa using hi
    subst hik
    obtain ⟨o, ho⟩ := Option.isSome_iff_exists.1 hsome
    have hp : pickOps l (i :: tl) = o :: pickOps l tl := by
      have : l[i]? = some o := by simpa using ho
      simp [pickOps, List.getD_eq_getElem?_getD, this]
    rw [hp] at h
    have hw : wpOp P l.toArray Q' i (wpList P l.toArray Q' (pickOps l tl)) a w := by unfold wpOp; simp only [ho]; exact h
    exact wpOp_mono (fun a' w' h' => wpAny_of_seqBy tl _ a' w' hB' h') hw
def lexBy (md : Region.Mode) (ops : Array Oper) (tl : List Nat) : List Nat → Array Bool → Bool
  | [], listed => seqBy md ops tl listed
  | k :: hd, listed => (Region.ready md ops listed).contains k && Region.free md ops listed k && (ops[k]?).isSome && lexBy md ops tl hd (listed.setIfInBounds k true)
/-- an operation that is no call, stores nothing -/
def plainOp (o : Oper) : Bool :=
  match o.op with
  | .move _ | .assign _ | .nilCheck _ | .fieldAddr .. => true
  | _ => false
theorem plainOp_value {o : Oper} (h : plainOp o = true) {ρ : Operand → Value} {w w' : World} {n : Next} (hr : (execOp ρ o).run P w = .ok n w') : ∃ u, n = .value u := by
  unfold plainOp at h
  unfold execOp at hr
  split at h
  · rename_i x ho
    simp only [ho] at hr
    simp at hr
    exact ⟨_, hr.1.symm⟩
  · rename_i x ho
    simp only [ho] at hr
    simp at hr
    exact ⟨_, hr.1.symm⟩
  · rename_i x ho
    simp only [ho] at hr
    have hnil : ∀ (w w' : World) (n : Next), ¬ (runtimePanic (α := Next) RuntimeError.nilDeref).run P w = .ok n w' := fun w w' n h => by simp [runtimePanic, goPanic] at h
    split at hr
    · exact absurd hr (hnil _ _ _)
    · exact absurd hr (hnil _ _ _)
    · exact absurd hr (hnil _ _ _)
    · split at hr
      · exact absurd hr (hnil _ _ _)
      · simp only [Sem.run_bind] at hr
        rename_i t wv _
        cases h1 : (program).run P w with
        | halt c w2 => rw [h1] at hr; simp at hr
        | ok u w2 =>
          rw [h1] at hr
          simp only [Result.andThen_ok] at hr
          cases h2 : (nilAhead (u.types.size + Made.depth) t wv _).run P w2 with
          | halt c w3 => rw [h2] at hr; simp at hr
          | ok u3 w3 =>
            rw [h2] at hr
            simp only [Result.andThen_ok] at hr
            split at hr
            · simp only [Sem.run_bind] at hr
              generalize Sem.run P (unsupported _) w3 = r at hr
              cases r with
              | halt c w4 => simp at hr
              | ok u4 w4 => simp at hr; exact ⟨_, hr.1.symm⟩
            · simp at hr
              exact ⟨_, hr.1.symm⟩
      · simp at hr
        exact ⟨_, hr.1.symm⟩
    · simp at hr
      exact ⟨_, hr.1.symm⟩
  · rename_i x y z ho
    simp only [ho, Sem.run_bind] at hr
    cases hq : (Instr.fieldAt x (ρ y) z).run P w with
    | ok u w2 => rw [hq] at hr; simp at hr; exact ⟨_, hr.1.symm⟩
    | halt c w2 => rw [hq] at hr; simp at hr
  · cases h
def zBy (md : Region.Mode) (ops : Array Oper) (out : List Nat) : List Nat → Array Bool → Bool
  | [], _ => true
  | k :: z, listed => (Region.ready md ops listed).contains k && Region.free md ops listed k && (match ops[k]? with | some o => plainOp o | none => false) && !out.contains k && zBy md ops out z (listed.setIfInBounds k true)
def setAll (listed : Array Bool) : List Nat → Array Bool
  | [] => listed
  | k :: z => setAll (listed.setIfInBounds k true) z
def tailByB (md : Region.Mode) (ops : Array Oper) (z hd : List Nat) (t : Nat) (tl : List Nat) : Bool :=
  Region.noSelect ops && sinkBy md ops t hd && chainBy md ops t tl && hd.all (fun i => !(t :: tl).contains i) && (t :: tl).all (fun i => decide (i < ops.size)) && decide (z.length + (hd.length + (t :: tl).length) = ops.size) &&
    zBy md ops (t :: tl) z (Array.replicate ops.size false) && lexBy md ops (t :: tl) hd (setAll (Array.replicate ops.size false) z)
theorem seqBy_ready {tl : List Nat} {listed : Array Bool} (h : seqBy md ops tl listed = true) : ∀ j ∈ Region.ready md ops listed, j ∈ tl := by
  cases tl with
  | nil => intro j hj; simp only [seqBy, List.isEmpty_iff] at h; rw [h] at hj; cases hj
  | cons k tl =>
    intro j hj
    simp only [seqBy, Bool.and_eq_true, decide_eq_true_eq] at h
    rw [h.1.1] at hj
    have : j = k := by simpa using hj
    rw [this]; simp
theorem wpAnyB_lex {l : List Oper} {t : Nat} {tl : List Nat} {Lq : Act → Prop} (hsel : Region.noSelect l.toArray = true) (hc : chainBy md l.toArray t tl = true) :
    ∀ (hd : List Nat) (listed : Array Bool) (a : Act), sinkBy md l.toArray t hd = true → (∀ i ∈ hd, i ∉ t :: tl) → HeadBy md l.toArray (t :: tl) listed →
    lexBy md l.toArray (t :: tl) hd listed = true → wpQuiet P l.toArray C Lq (pickOps l hd) a →
    wpAnyB P md l.toArray C (t :: tl) (fun listed' a' => seqBy md l.toArray (t :: tl) listed' = true ∧ Lq a') hd.length listed a
  | [], listed, a, _, _, _, hB, h => ⟨by simpa [lexBy] using hB, h⟩
  | k :: hd, listed, a, hs, hdis, inv, hB, h => by
    simp only [lexBy, Bool.and_eq_true] at hB
    obtain ⟨⟨⟨hr, hf⟩, hsome⟩, hB'⟩ := hB
    obtain ⟨o, h0⟩ := Option.isSome_iff_exists.1 hsome
    have hp : pickOps l (k :: hd) = o :: pickOps l hd := by
      have : l[k]? = some o := by simpa using h0
      simp [pickOps, List.getD_eq_getElem?_getD, this]
    rw [hp] at h
    have hr' : k ∈ Region.ready md l.toArray listed := by simpa using hr
    have hst : qOp P l.toArray C k (wpQuiet P l.toArray C Lq (pickOps l hd)) a := by unfold qOp; simp only [h0]; exact h
    obtain ⟨v, hy, hK⟩ := yieldsIn_of_qOp h0 hst
    have hs' : sinkBy md l.toArray t hd = true := by simp only [sinkBy, Bool.and_eq_true] at hs; exact hs.2
    exact wpAnyB_first h0 (Region.noSelect_spec hsel) hs hc (by simp) (hdis k (by simp)) (fun listed' a' hL => seqBy_ready hL.1) hd.length listed a inv (Region.free_spec h0 hf) hr' hy
      (wpAnyB_lex hsel hc hd _ _ hs' (fun i hi => hdis i (by simp [hi])) (inv.set hr' (hdis k (by simp))) hB' hK)
theorem HeadBy.setAll {tl : List Nat} : ∀ (z : List Nat) (listed : Array Bool), HeadBy md ops tl listed → zBy md ops tl z listed = true → HeadBy md ops tl (setAll listed z)
  | [], _, inv, _ => inv
  | k :: z, listed, inv, h => by
    simp only [zBy, Bool.and_eq_true] at h
    obtain ⟨⟨⟨⟨hr, _⟩, _⟩, hk⟩, h'⟩ := h
    exact HeadBy.setAll z _ (inv.set (by simpa using hr) (by simpa using hk)) h'
theorem yields_of_plain {o : Oper} {v : Value} {a : Act} (hp : plainOp o = true) (hy : YieldsIn P ops (fun _ => True) o v a) : Yields P ops o v a := by
  rcases hy with ⟨hw, hv⟩ | h
  · refine .inl ⟨hw, fun w => ?_⟩
    have h1 := hv w trivial
    unfold Oper.quietAt at h1
    cases hr : (execOp a.eval o).run P w with
    | ok n w' =>
      obtain ⟨u, rfl⟩ := plainOp_value hp hr
      rw [hr] at h1
      simp only [Oper.quietUpon] at h1
      rw [h1.1, h1.2]
    | halt c w' => rw [hr] at h1; simp only [Oper.quietUpon] at h1
  · exact .inr h
theorem wpAny_of_z {l : List Oper} {Q : Exit → Act → World → Prop} {out : List Nat} {f : Nat} {w : World} {R : Act → Prop} (hsel : Region.noSelect l.toArray = true) (hQ : ∀ c a d v w, Q (.panic c) (a.put d v) w → Q (.panic c) a w) :
    ∀ (z : List Nat) (listed : Array Bool) (a : Act), zBy md l.toArray out z listed = true → wpQuiet P l.toArray (fun _ => True) R (pickOps l z) a → (∀ a', R a' → wpAny P md l.toArray Q f (setAll listed z) a' w) → wpAny P md l.toArray Q (z.length + f) listed a w
  | [], listed, a, _, h, hR => by rw [List.length_nil, Nat.zero_add]; exact hR a h
  | k :: z, listed, a, hB, h, hR => by
    simp only [zBy, Bool.and_eq_true] at hB
    obtain ⟨⟨⟨⟨hr, hf⟩, hp⟩, _⟩, hB'⟩ := hB
    cases h0 : l.toArray[k]? with
    | none => rw [h0] at hp; cases hp
    | some o =>
      rw [h0] at hp
      have hpo : plainOp o = true := hp
      have hpk : pickOps l (k :: z) = o :: pickOps l z := by
        have : l[k]? = some o := by simpa using h0
        simp [pickOps, List.getD_eq_getElem?_getD, this]
      rw [hpk] at h
      have hst : qOp P l.toArray (fun _ => True) k (wpQuiet P l.toArray (fun _ => True) R (pickOps l z)) a := by unfold qOp; simp only [h0]; exact h
      obtain ⟨v, hy, hK⟩ := yieldsIn_of_qOp h0 hst
      rw [List.length_cons, show z.length + 1 + f = (z.length + f) + 1 by omega]
      exact wpAny_take h0 hsel hf hr (fun c a w => hQ c a _ _ w) (yields_of_plain hpo hy) (wpAny_of_z hsel hQ z _ _ hB' hK hR)
theorem wp_region_tail_by {id : Nat} {Q : Exit → Act → World → Prop} {a : Act} {w : World} {l : List Oper} (z hd : List Nat) (t : Nat) (tl : List Nat) (hm : P.follows .mixedOrders = true) (hB : tailByB .any l.toArray z hd t tl = true) (hQ : ∀ c a d v w, Q (.panic c) (a.put d v) w → Q (.panic c) a w) (hC : C { w with drawn := w.drawn + 1 })
    (h : wpQuiet P l.toArray (fun _ => True) (wpQuiet P l.toArray C (fun a' => ∀ w', C w' → wpList P l.toArray Q (pickOps l (t :: tl)) a' w') (pickOps l hd)) (pickOps l z) a) : (Code.region id l.toArray true).wp P Q a w := by
  simp only [tailByB, Bool.and_eq_true, decide_eq_true_eq, List.all_eq_true] at hB
  obtain ⟨⟨⟨⟨⟨⟨⟨hsel, hs⟩, hc⟩, hdis⟩, hlt⟩, hlen⟩, hz⟩, hlex⟩ := hB
  have inv0 : HeadBy .any l.toArray (t :: tl) (Array.replicate l.toArray.size false) :=
    ⟨by simp, fun j oj _ hl => (by rw [getD_replicate_false] at hl; cases hl), fun u hu => getD_in (by have := hlt u hu; simpa using this) (getD_replicate_false _ _)⟩
  have inv1 := HeadBy.setAll z _ inv0 hz
  refine wp_region_any hm ?_
  suffices H2 : wpAny P .any l.toArray Q (z.length + (hd.length + (t :: tl).length)) (Array.replicate l.toArray.size false) a { w with drawn := w.drawn + 1 } by rw [hlen] at H2; exact H2
  refine wpAny_of_z hsel hQ z _ a hz h fun a' h' => ?_
  have H := wpAnyB_lex (md := .any) (C := C) hsel hc hd _ a' hs (fun i hi => by have := hdis i hi; simpa using this) inv1 hlex h'
  exact wpAny_of_headB (Q' := Q) (g := (t :: tl).length) (fun listed a' w' hw' hL => wpAny_of_seqBy (md := .any) (Q' := Q) (t :: tl) listed a' w' hL.1 (hL.2 w' hw')) _ _ _ _ hC H
theorem wp_region_calm_by {id : Nat} {Q : Exit → Act → World → Prop} {a : Act} {w : World} {l : List Oper} (z hd : List Nat) (t : Nat) (tl : List Nat) (hm : P.follows .mixedOrders = true) (hB : tailByB .any l.toArray z hd t tl = true) (hQ : ∀ c a d v w, Q (.panic c) (a.put d v) w → Q (.panic c) a w)
    (h : wpQuiet P l.toArray (fun _ => True) (wpQuiet P l.toArray (fun w' => ∃ n : Ext w, w' = n.W) (fun a' => ∀ w', (∃ n : Ext w, w' = n.W) → wpList P l.toArray Q (pickOps l (t :: tl)) a' w') (pickOps l hd)) (pickOps l z) a) : (Code.region id l.toArray true).wp P Q a w :=
  wp_region_tail_by z hd t tl hm hB hQ ⟨⟨w.drew, (Below.refl _ w).drew⟩, rfl⟩ h
theorem wp_region_draw_by {id : Nat} {Q : Exit → Act → World → Prop} {a : Act} {w : World} {l : List Oper} (z hd : List Nat) (t : Nat) (tl : List Nat) (hm : P.follows .mixedOrders = true) (hB : tailByB .any l.toArray z hd t tl = true) (hQ : ∀ c a d v w, Q (.panic c) (a.put d v) w → Q (.panic c) a w)
    (h : wpQuiet P l.toArray (fun _ => True) (wpQuiet P l.toArray (fun w' => ∃ n, w' = w.drewN n) (fun a' => ∀ w', (∃ n, w' = w.drewN n) → wpList P l.toArray Q (pickOps l (t :: tl)) a' w') (pickOps l hd)) (pickOps l z) a) : (Code.region id l.toArray true).wp P Q a w :=
  wp_region_tail_by z hd t tl hm hB hQ ⟨1, rfl⟩ h
end
end Go.Proofs.YtcmkcgegdclllaaDoor
