/- The reference of seal.Play: its plain law, and how its state lies. Conditions: none beyond what each theorem states. -/
import Derived.Test.YtiljallignlbgaaSealE
namespace Go.Proofs.Ytiljallignlbgaa
open Go.RowKit
set_option linter.unusedVariables false

structure RfS where
  l : List PoD
  op : List Int
def wayIs (l : List PoD) (fr to_ k : Int) : Bool := match l[k.toNat]? with | some q => decide (q.fr = fr) && decide (q.to_ = to_) | none => false
def isOld (l : List PoD) (op : List Int) (fr to_ id : Int) : Bool := op.any fun k => decide (id ≤ k) && wayIs l fr to_ k
def refMv (s : RfS) (x : LtD) : RfS × OdD :=
  if x.kind ≠ 1 ∧ x.kind ≠ 2 then (s, ⟨3, 0, 0, []⟩)
  else if partyB x.to_ = false ∨ (x.kind = 1 ∧ partyB x.fr = false) then (s, ⟨2, 0, 0, []⟩)
  else if x.kind = 1 ∧ 256 < x.data.length then (s, ⟨1, 0, 0, []⟩)
  else if x.kind = 1 then (⟨s.l ++ [⟨x.fr, x.to_, x.data⟩], s.op⟩, ⟨0, s.l.length, x.data.length, []⟩)
  else if x.id < 0 then (s, ⟨6, 0, 0, []⟩)
  else match s.l[x.id.toNat]? with
    | none => (s, ⟨6, 0, 0, []⟩)
    | some p => if p.to_ ≠ x.to_ then (s, ⟨11, 0, 0, []⟩) else if isOld s.l s.op p.fr x.to_ x.id = true then (s, ⟨10, 0, 0, []⟩) else (⟨s.l, s.op ++ [x.id]⟩, ⟨0, x.id, p.data.length, p.data⟩)
structure RfS.ok (s : RfS) : Prop where
  each : ∀ k ∈ s.op, 0 ≤ k ∧ k < s.l.length
  pos : ∀ p ∈ s.l, 0 ≤ p.to_
  small : ∀ p ∈ s.l, p.data.length ≤ 256
structure SameS (s : SlS) (r : RfS) : Prop where
  l : s.l = r.l
  ok : r.ok
  top : ∀ f t id, 0 ≤ id → (id < s.top f t ↔ isOld r.l r.op f t id = true)
theorem wayIs_append (l : List PoD) (x : PoD) (f t k : Int) (h0 : 0 ≤ k) (h : k < l.length) : wayIs (l ++ [x]) f t k = wayIs l f t k := by
  unfold wayIs
  rw [List.getElem?_append_left (by omega)]
theorem isOld_append (l : List PoD) (x : PoD) (op : List Int) (h : ∀ k ∈ op, 0 ≤ k ∧ k < l.length) (f t id : Int) : isOld (l ++ [x]) op f t id = isOld l op f t id := by
  unfold isOld
  rw [Bool.eq_iff_iff, List.any_eq_true, List.any_eq_true]
  constructor
  · rintro ⟨k, hk, h2⟩
    exact ⟨k, hk, by rwa [wayIs_append l x f t k (h k hk).1 (h k hk).2] at h2⟩
  · rintro ⟨k, hk, h2⟩
    exact ⟨k, hk, by rwa [wayIs_append l x f t k (h k hk).1 (h k hk).2]⟩
theorem mv_same {s : SlS} {r : RfS} (x : LtD) (h : SameS s r) : SameS (moveS s x).1 (refMv r x).1 ∧ (moveS s x).2 = (refMv r x).2 := by
  obtain ⟨sl, st⟩ := s
  obtain ⟨rl, ro⟩ := r
  obtain ⟨hl, hok, htop⟩ := h
  dsimp only at hl htop
  subst hl
  unfold moveS refMv
  dsimp only
  by_cases h1 : x.kind ≠ 1 ∧ x.kind ≠ 2
  · rw [if_pos h1, if_pos h1]
    exact ⟨⟨rfl, hok, htop⟩, rfl⟩
  rw [if_neg h1, if_neg h1]
  by_cases h2 : partyB x.to_ = false ∨ (x.kind = 1 ∧ partyB x.fr = false)
  · rw [if_pos h2, if_pos h2]
    exact ⟨⟨rfl, hok, htop⟩, rfl⟩
  rw [if_neg h2, if_neg h2]
  by_cases h3 : x.kind = 1
  · rw [if_neg (show ¬ x.kind = 2 by omega)]
    by_cases h4 : 256 < x.data.length
    · rw [if_pos h4, if_pos ⟨h3, h4⟩]
      exact ⟨⟨rfl, hok, htop⟩, rfl⟩
    · rw [if_neg h4, if_neg (fun e => h4 e.2), if_pos h3]
      refine ⟨⟨rfl, ⟨fun k hk => ?_, fun q hq => ?_, fun q hq => ?_⟩, fun f t id hid => ?_⟩, rfl⟩
      · have := hok.each k hk
        simp
        dsimp only at this
        omega
      · rcases List.mem_append.1 hq with hq | hq
        · exact hok.pos q hq
        · rw [List.mem_singleton] at hq
          subst hq
          cases h : partyB x.to_ with
          | false => exact absurd (.inl h) h2
          | true =>
            unfold partyB at h
            simp at h
            exact h.1
      · rcases List.mem_append.1 hq with hq | hq
        · exact hok.small q hq
        · rw [List.mem_singleton] at hq
          subst hq
          exact Nat.not_lt.1 h4
      · rw [isOld_append _ _ _ hok.each]
        exact htop f t id hid
  · rw [if_pos (show x.kind = 2 by omega), if_neg (fun e : x.kind = 1 ∧ 256 < x.data.length => h3 e.1), if_neg h3]
    by_cases h5 : x.id < 0
    · have hop : openS sl st x.to_ x.id = (st, [], 6) := by unfold openS toP; rw [if_pos h5, if_pos (by decide)]
      rw [hop, if_pos h5]
      dsimp only
      rw [if_pos (show (6 : Int) ≠ 0 by decide)]
      exact ⟨⟨rfl, hok, htop⟩, rfl⟩
    rw [if_neg h5]
    cases hp : sl[x.id.toNat]? with
    | none =>
      have hop : openS sl st x.to_ x.id = (st, [], 6) := by unfold openS toP; rw [if_neg h5, hp]; exact if_pos (by decide)
      rw [hop]
      dsimp only
      rw [if_pos (show (6 : Int) ≠ 0 by decide)]
      exact ⟨⟨rfl, hok, htop⟩, rfl⟩
    | some p =>
      have hpos := hok.pos p (List.mem_of_getElem? hp)
      have htp : toP sl x.id = p.to_ := by unfold toP; rw [if_neg h5, hp]
      dsimp only
      by_cases h6 : p.to_ = x.to_
      · rw [if_neg (show ¬ p.to_ ≠ x.to_ from fun e => e h6)]
        have ht := htop p.fr p.to_ x.id (by omega)
        have hop0 : openS sl st x.to_ x.id = if x.id < st p.fr p.to_ then (st, [], 10) else (fun f t => if f = p.fr ∧ t = p.to_ then x.id + 1 else st f t, p.data, 0) := by
          unfold openS; rw [htp, if_neg (by omega), if_neg (fun e => e h6), hp]
        rw [h6] at ht hop0
        by_cases h7 : x.id < st p.fr x.to_
        · rw [if_pos h7] at hop0
          rw [hop0, if_pos (ht.1 h7)]
          dsimp only
          rw [if_pos (show (10 : Int) ≠ 0 by decide)]
          exact ⟨⟨rfl, hok, htop⟩, rfl⟩
        · have hlen := (List.getElem?_eq_some_iff.1 hp).1
          rw [if_neg h7] at hop0
          rw [hop0, if_neg (fun e => h7 (ht.2 e))]
          dsimp only
          rw [if_neg (show ¬ (0 : Int) ≠ 0 by decide)]
          refine ⟨⟨rfl, ⟨fun k hk => ?_, hok.pos, hok.small⟩, fun f t id hid => ?_⟩, rfl⟩
          · rcases List.mem_append.1 hk with hk | hk
            · exact hok.each k hk
            · rw [List.mem_singleton] at hk
              subst hk
              dsimp only
              omega
          · show id < (if f = p.fr ∧ t = x.to_ then x.id + 1 else st f t) ↔ _
            have hw : wayIs sl f t x.id = decide (f = p.fr ∧ t = x.to_) := by
              unfold wayIs
              rw [hp]
              dsimp only
              rw [h6, Bool.eq_iff_iff, Bool.and_eq_true, decide_eq_true_eq, decide_eq_true_eq, decide_eq_true_eq]
              exact ⟨fun e => ⟨e.1.symm, e.2.symm⟩, fun e => ⟨e.1.symm, e.2.symm⟩⟩
            have e1 : isOld sl (ro ++ [x.id]) f t id = (isOld sl ro f t id || (decide (id ≤ x.id) && decide (f = p.fr ∧ t = x.to_))) := by
              unfold isOld
              rw [List.any_append]
              simp [hw]
            rw [e1, Bool.or_eq_true, ← htop f t id hid]
            by_cases h8 : f = p.fr ∧ t = x.to_
            · rw [if_pos h8]
              obtain ⟨rfl, rfl⟩ := h8
              simp
              omega
            · rw [if_neg h8]
              simp [h8]
      · have hop : openS sl st x.to_ x.id = (st, [], 11) := by unfold openS; rw [htp, if_neg (by omega), if_pos h6]
        rw [hop, if_pos h6]
        dsimp only
        rw [if_pos (show (11 : Int) ≠ 0 by decide)]
        exact ⟨⟨rfl, hok, htop⟩, rfl⟩
def playRf (s : RfS) : List LtD → List OdD
  | [] => []
  | x :: l => (refMv s x).2 :: playRf (refMv s x).1 l
theorem playRf_drop (s : RfS) (l : List LtD) (k : Nat) (x : LtD) (h : l[k]? = some x) : playRf s (l.drop k) = (refMv s x).2 :: playRf (refMv s x).1 (l.drop (k + 1)) := by rw [drop_cons l k x h]; rfl
def sealR (l : List LtD) : List OdD × Int := if 300 < l.length then ([], 1) else (playRf ⟨[], []⟩ l, 0)
theorem playM_same (l : List LtD) : ∀ (s : SlS) (r : RfS), SameS s r → playM s l = playRf r l := by
  induction l with
  | nil => intro s r _; rfl
  | cons x l ih =>
    intro s r h
    have h1 := mv_same x h
    rw [playM, playRf, h1.2, ih _ _ h1.1]
theorem sealP_same (l : List LtD) : sealP l = sealR l := by
  unfold sealP sealR
  rw [playM_same l SlS.new ⟨[], []⟩ ⟨rfl, ⟨fun k hk => (by cases hk), fun p hp => (by cases hp), fun p hp => (by cases hp)⟩, fun f t id hid => ?_⟩]
  show id < 0 ↔ isOld [] [] f t id = true
  unfold isOld
  simp
  omega
theorem refMv_ok {r : RfS} (x : LtD) (h : r.ok) : (refMv r x).1.ok ∧ (refMv r x).1.l.length ≤ r.l.length + 1 ∧ (refMv r x).1.op.length ≤ r.op.length + 1 := by
  unfold refMv
  split
  · exact ⟨h, by simp, by simp⟩
  split
  · exact ⟨h, by simp, by simp⟩
  rename_i h2
  split
  · exact ⟨h, by simp, by simp⟩
  rename_i h4
  split
  · rename_i h4'
    refine ⟨⟨fun k hk => ?_, fun q hq => ?_, fun q hq => ?_⟩, by simp, by simp⟩
    · have := h.each k hk
      simp
      omega
    · rcases List.mem_append.1 hq with hq | hq
      · exact h.pos q hq
      · rw [List.mem_singleton] at hq
        subst hq
        cases h : partyB x.to_ with
        | false => exact absurd (.inl h) h2
        | true =>
          unfold partyB at h
          simp at h
          exact h.1
    · rcases List.mem_append.1 hq with hq | hq
      · exact h.small q hq
      · rw [List.mem_singleton] at hq
        subst hq
        exact Nat.not_lt.1 (fun e => h4 ⟨h4', e⟩)
  split
  · exact ⟨h, by simp, by simp⟩
  rename_i h5
  split
  · exact ⟨h, by simp, by simp⟩
  rename_i p hp
  split
  · exact ⟨h, by simp, by simp⟩
  split
  · exact ⟨h, by simp, by simp⟩
  · refine ⟨⟨fun k hk => ?_, h.pos, h.small⟩, by simp, by simp⟩
    rcases List.mem_append.1 hk with hk | hk
    · exact h.each k hk
    · rw [List.mem_singleton] at hk
      subst hk
      have := (List.getElem?_eq_some_iff.1 hp).1
      dsimp only
      omega

/-! ### how its state lies -/
def Po.cellsL (p : Po) : List Value := [.int .i64 0, .int .i64 p.d.fr, .int .i64 p.d.to_, .int .i64 0, .slice p.A p.n p.c]
theorem Po.cellsL_len (p : Po) : p.cellsL.length = 5 := rfl
structure RfAt (w : World) (base : Nat) (v vo : Value) (l : List Po) (op : List Int) : Prop where
  own : w.ownsRow base 61 5 v l.length (l.flatMap Po.cellsL)
  rows : ∀ p ∈ l, PoOwn p w base
  opn : w.ownsRow base 3 1 vo op.length (op.map (.int .i64))
theorem RfAt.nil (w : World) (base : Nat) : RfAt w base (.slice none 0 0) (.slice none 0 0) [] [] := ⟨World.ownsRow_nil _ _ _ _, fun p hp => (by cases hp), World.ownsRow_nil _ _ _ _⟩
section
variable {w w' W WF : World} {base p : Nat} {v vo : Value} {l : List Po} {op : List Int}
theorem RfAt.only {D : Nat → Prop} (h : RfAt w base v vo l op) (ho : Only D w w') (h1 : ∀ k, v.ownBlock = some k → ¬ D k) (h2 : ∀ k, vo.ownBlock = some k → ¬ D k) (h3 : ∀ p ∈ l, ∀ k, (Value.slice p.A p.n p.c).ownBlock = some k → ¬ D k) : RfAt w' base v vo l op :=
  ⟨own_only h.own ho h1, fun p hp => own_only (h.rows p hp) ho (h3 p hp), own_only h.opn ho h2⟩
theorem RfAt.calm (h : RfAt w base v vo l op) (hb : Below w.heap.size w w') : RfAt w' base v vo l op := ⟨own_below' h.own hb, fun p hp => own_below' (h.rows p hp) hb, own_below' h.opn hb⟩
/-- behind stores into a box of an api.Opened -/
theorem RfAt.boxed {cs : Array Value} (h : RfAt W base v vo l op) (kp : Blk W p 36 cs) (hF : Only (fun k => k = p) W WF) : RfAt WF base v vo l op :=
  h.only hF (fun k hk e => own_blk_ne h.own kp (by decide) (by rw [hk, e])) (fun k hk e => own_blk_ne h.opn kp (by decide) (by rw [hk, e])) (fun q hq k hk e => own_blk_ne (h.rows q hq) kp (by decide) (by rw [hk, e]))
theorem RfAt.grown {base' size n : Nat} {v' : Value} {e : TypeId} {xs : List Value} (h : RfAt w base v vo l op) (hown : w.ownsRow base' e size v' n xs) (h1 : 61 ≠ e) (h2 : 3 ≠ e) (h3 : 5 ≠ e) (hg : w.grownBy w' v'.ownBlock) : RfAt w' base v vo l op :=
  ⟨World.ownsRow.kept h.own hg (own_own_ne h.own hown h1), fun p hp => World.ownsRow.kept (h.rows p hp) hg (own_own_ne (h.rows p hp) hown h3), World.ownsRow.kept h.opn hg (own_own_ne h.opn hown h2)⟩
theorem RfAt.posts {v' : Value} {x : Po} (h : RfAt w base v vo l op) (hx : PoOwn x w base) (hg : w.grownBy w' v.ownBlock) (hown : w'.ownsRow base 61 5 v' (l.length + 1) (l.flatMap Po.cellsL ++ x.cellsL)) : RfAt w' base v' vo (l ++ [x]) op := by
  have key : ∀ y, PoOwn y w base → PoOwn y w' base := fun y hy => World.ownsRow.kept hy hg (own_own_ne hy h.own (by decide))
  refine ⟨by rw [List.length_append, List.flatMap_append]; simpa using hown, fun y hy => ?_, World.ownsRow.kept h.opn hg (own_own_ne h.opn h.own (by decide))⟩
  rcases List.mem_append.1 hy with h1 | h1
  · exact key y (h.rows y h1)
  · rw [List.mem_singleton] at h1
    subst h1
    exact key _ hx
theorem RfAt.opens {vo' : Value} {id : Int} (h : RfAt w base v vo l op) (hg : w.grownBy w' vo.ownBlock) (hown : w'.ownsRow base 3 1 vo' (op.length + 1) (op.map (.int .i64) ++ [.int .i64 id])) : RfAt w' base v vo' l (op ++ [id]) :=
  ⟨World.ownsRow.kept h.own hg (own_own_ne h.own h.opn (by decide)), fun p hp => World.ownsRow.kept (h.rows p hp) hg (own_own_ne (h.rows p hp) h.opn (by decide)), by rw [List.length_append, List.map_append]; simpa using hown⟩
theorem OutO.grown {base' size n k : Nat} {v' : Value} {outs : List Od} {e : TypeId} {xs : List Value} (h : OutO w base v k outs) (hown : w.ownsRow base' e size v' n xs) (h1 : 36 ≠ e) (h2 : 5 ≠ e) (hg : w.grownBy w' v'.ownBlock) : OutO w' base v k outs :=
  ⟨h.len, World.ownsRow.kept h.own hg (own_own_ne h.own hown h1), fun p hp => World.ownsRow.kept (h.rows p hp) hg (own_own_ne (h.rows p hp) hown h2)⟩
theorem RfAt.cellsAt {bl o q c i : Nat} {y : Po} (h : RfAt W base (.slice (some ⟨bl, o, none⟩) q c) vo l op) (hy : l[i]? = some y) :
    W.cell? ⟨bl, o + i * 5 + 1, none⟩ = some (.int .i64 y.d.fr) ∧ W.cell? ⟨bl, o + i * 5 + 2, none⟩ = some (.int .i64 y.d.to_) ∧ W.cell? ⟨bl, o + i * 5 + 4, none⟩ = some (.slice y.A y.n y.c) := by
  obtain ⟨A, c', e, _⟩ := own_slice h.own
  have hi := (List.getElem?_eq_some_iff.1 hy).1
  have hr : Reads W W.heap.size 5 (some ⟨bl, o, none⟩) l.length (l.flatMap Po.cellsL) := by
    have h1 := h.own
    rw [e] at h1
    injection e with e1 _ _
    rw [← e1] at h1
    exact Reads.of_own h1
  obtain ⟨b', o', y', e', _, hy', hc⟩ := at_row Po.cellsL_len (by omega) hr hi rfl
  injection e' with e'
  injection e' with e1 e2
  subst e1 e2
  rw [hy] at hy'
  injection hy' with hy'
  subst hy'
  exact ⟨hc 1 _ rfl, hc 2 _ rfl, hc 4 _ rfl⟩
theorem isOld_take (L : List PoD) (op : List Int) (f t id z : Int) (k : Nat) (hz : op[k]? = some z) : isOld L (op.take (k + 1)) f t id = (isOld L (op.take k) f t id || (decide (id ≤ z) && wayIs L f t z)) := by
  rw [take_snoc op k z hz]
  unfold isOld
  rw [List.any_append]
  simp
theorem rf_below {w w' : World} (h : w.grownBy w' none) : Below w.heap.size w w' := ⟨h.os, h.tape, h.output, h.size, fun i hi => h.block i hi (by simp)⟩
/-- what the switch leaves -/
def RfCut (base p k : Nat) (v : Value) (w : World) (outs : List Od) (r : RfS × OdD) (s4 s5 : Value) (W : World) : Prop :=
  ∃ (po : List Po) (x : Od), po.map (·.d) = r.1.l ∧ x.d = r.2 ∧ RfAt W base s4 s5 po r.1.op ∧ Blk W p 36 x.cells.toArray ∧ OdOwn x W base ∧ OutO W base v k outs ∧ Below base w W
theorem rf_fin {k : Nat} {s4 s5 : Value} {outs : List Od} {r : RfS × OdD} {po : List Po} {x : Od} {cs : Array Value} (hl : po.map (·.d) = r.1.l) (hx : x.d = r.2) (hr : RfAt W base s4 s5 po r.1.op) (kp : Blk W p 36 cs) (hd : OdOwn x W base) (ho : OutO W base v k outs)
    (hp : ∀ q, v.ownBlock = some q → q ≠ p) (hb : Below base w W) (hbp : base ≤ p) (hbw : base ≤ W.heap.size) (hF : Only (fun k => k = p) W WF) (kF : Blk WF p 36 x.cells.toArray) : RfCut base p k v w outs r s4 s5 WF := by
  refine ⟨po, x, hl, hx, hr.boxed kp hF, kF, own_only hd hF (fun k hk e => own_blk_ne hd kp (by decide) (by rw [hk, e])), ho.only hF hp (fun y hy k hk e => own_blk_ne (ho.rows y hy) kp (by decide) (by rw [hk, e])), ?_⟩
  exact hb.trans (hF.to_below (fun x hx _ e => by omega) hbw)
end
end Go.Proofs.Ytiljallignlbgaa
