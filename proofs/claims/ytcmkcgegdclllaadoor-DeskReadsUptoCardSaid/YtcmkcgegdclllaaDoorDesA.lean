/- desk.fields: a map from letters to the addresses of a step's fields. Conditions: none beyond what each theorem states. -/
import Derived.Test.YtcmkcgegdclllaaDoorMembA
import Derived.Test.YtcmkcgegdclllaaDoorRegion
import Derived.Test.YtcmkcgegdclllaaDoorOnly
import Derived.Maps.OwnOps
import Derived.Maps.OwnSet
import Derived.Maps.Views
import Derived.Maps.Keyed
namespace Go.Proofs.YtcmkcgegdclllaaDoor
open Go.RowKit
open Go.Maps (Keyed)
set_option linter.unusedVariables false

def fldE (g : Nat) (v : Value) : Option (DataW Unit × List MemPlace) :=
  match v with
  | .pointer (some ⟨g', off, none⟩) => if g' = g then some (.lit (.int .i64 ((off : Nat) : Int)), []) else none
  | .pointer none => some (.nil, [])
  | _ => none
def fldKeys : List Int := [119, 105, 99, 108, 100, 98, 107]
theorem i32_law : Keyed Tryd.prog 21 := Maps.int_keyed Tryd.underlying21
theorem fld_key (n : Int) (h : (Lit.int .i32 n).wf = true) : keyOf Tryd.prog 21 (.int .i32 n) = some (.int .i32 n) := Maps.keyOf_int_mk Tryd.underlying21 h
theorem ptr_zero (w : World) : (zeroValue 47).run Tryd.prog w = .ok (.pointer none) w := by kernel_rfl
theorem fldE_inv {g : Nat} {v : Value} {off : Int} {ps : List MemPlace} (h : fldE g v = some (.lit (.int .i64 off), ps)) : ∃ o : Nat, off = o ∧ v = .pointer (some ⟨g, o, none⟩) := by
  unfold fldE at h
  split at h
  · split at h
    · rename_i hg
      subst hg
      simp at h
      exact ⟨_, h.1.symm, rfl⟩
    · cases h
  · simp at h
  · cases h
/-- block b is a map of at most n entries: of the letters for which S says so, the addresses of the fields of block g -/
def FldMap (w : World) (g b n : Nat) (S : Nat → Bool) : Prop :=
  ∃ D : DataW Unit, w.ownsMap Tryd.prog 21 (fldE g) b n D ∧ ∀ j k, fldKeys[j]? = some k → D.atKey (.int .i32 k) .nil = if S j then .lit (.int .i64 ((j + 1 : Nat) : Int)) else .nil
theorem fld_wf {j : Nat} {k : Int} (h : fldKeys[j]? = some k) : (Lit.int .i32 k).wf = true := by
  have hm := List.mem_of_getElem? h
  unfold fldKeys at hm
  simp only [List.mem_cons, List.not_mem_nil, or_false] at hm
  rcases hm with rfl | rfl | rfl | rfl | rfl | rfl | rfl <;> decide
theorem fld_inj {i j : Nat} {k : Int} (hi : fldKeys[i]? = some k) (hj : fldKeys[j]? = some k) : i = j := by
  have hnd : fldKeys.Nodup := by decide
  exact (List.getElem?_inj (List.getElem?_eq_some_iff.1 hi).1 hnd).1 (by rw [hi, hj])
section
variable {w w' : World} {g b n : Nat} {S : Nat → Bool}
theorem FldMap.made (w : World) (g : Nat) : FldMap (w.alloc (.map #[] 0)) g w.heap.size 0 (fun _ => false) :=
  ⟨.map [], World.ownsMap_made w _ _ _, fun j k _ => WideAt.atKey_none _ (fun p hp => by cases hp)⟩
theorem FldMap.lt (h : FldMap w g b n S) : b < w.heap.size := by obtain ⟨D, h, _⟩ := h; exact h.lt
theorem FldMap.only {D : Nat → Prop} (h : FldMap w g b n S) (ho : Only D w w') (hn : ¬ D b) : FldMap w' g b n S := by
  have hlt := h.lt
  obtain ⟨E, ⟨es, clock, hb, r⟩, k⟩ := h
  exact ⟨E, ⟨es, clock, (ho.block b hlt hn).trans hb, r⟩, k⟩
theorem FldMap.below (h : FldMap w g b n S) (hb : Below w.heap.size w w') : FldMap w' g b n S := h.only (D := fun _ => False) (Only.of_below hb (fun x h1 h2 => by omega)) (fun e => e)
theorem FldMap.look (h : FldMap w g b n S) {j : Nat} {k : Int} (hk : fldKeys[j]? = some k) (hS : S j = true) :
    (Instr.lookup 43 (.map (some b)) (.int .i32 k) false).run Tryd.prog w = .ok (.pointer (some ⟨g, j + 1, none⟩)) w := by
  obtain ⟨D, h, hD⟩ := h
  obtain ⟨v, ps, hrun, hv⟩ := h.lookup i32_law Tryd.underlying43 (ptr_zero w) (show fldE g (.pointer none) = some (.nil, []) from rfl) (fld_key k (fld_wf hk))
  rw [hD j k hk, hS, if_pos rfl] at hv
  obtain ⟨o, ho, rfl⟩ := fldE_inv hv
  obtain rfl : o = j + 1 := by omega
  exact hrun
theorem FldMap.store (h : FldMap w g b n S) {j : Nat} {k : Int} (hk : fldKeys[j]? = some k) (hn : n < maxLen) :
    ∃ w', (Instr.mapUpdate 43 (.map (some b)) (.int .i32 k) (.pointer (some ⟨g, j + 1, none⟩))).run Tryd.prog w = .ok () w' ∧ FldMap w' g b (n + 1) (fun i => if i = j then true else S i) ∧ w.grownBy w' (some b) := by
  obtain ⟨D, h, hD⟩ := h
  have hl := fld_key k (fld_wf hk)
  obtain ⟨w', hrun, hown, hg⟩ := h.update i32_law Tryd.underlying43 hn hl (show fldE g (.pointer (some ⟨g, j + 1, none⟩)) = some (.lit (.int .i64 ((j + 1 : Nat) : Int)), []) by unfold fldE; simp)
  refine ⟨w', hrun, ⟨_, hown, fun i k' hk' => ?_⟩, hg⟩
  by_cases he : i = j
  · subst he
    obtain rfl : k = k' := by rw [hk] at hk'; injection hk'
    show _ = if (if i = i then true else S i) = true then _ else _
    rw [if_pos rfl, if_pos rfl]
    exact Maps.atKey_put_same h.isMap (i32_law.key hl) _ _
  · show _ = if (if i = j then true else S i) = true then _ else _
    rw [if_neg he, Maps.atKey_put_other (fun e => he ?_)]
    · exact hD i k' hk'
    · have e2 := (Lit.int.inj e).2
      rw [e2] at hk'
      exact fld_inj hk' hk
end
/-! ### A region whose orders are told by an invariant -/
theorem count_set {l : Array Bool} {i : Nat} (h : l.getD i true = false) : (l.setIfInBounds i true).toList.count false + 1 = l.toList.count false := by
  have hi : i < l.size := by
    rcases Nat.lt_or_ge i l.size with h1 | h1
    · exact h1
    · rw [Array.getD_eq_getD_getElem?, Array.getElem?_eq_none h1] at h; cases h
  have hg : l[i] = false := by rw [Array.getD_eq_getD_getElem?, Array.getElem?_eq_getElem hi] at h; exact h
  obtain ⟨L⟩ := l
  simp only [List.setIfInBounds_toArray] at *
  simp at hi hg
  rw [List.count_set hi]
  have : 0 < List.count false L := List.count_pos_iff.2 (hg ▸ List.getElem_mem hi)
  simp [hg]
  omega
theorem wpAny_inv {P : Program} {md : Region.Mode} {ops : Array Oper} {Q : Exit → Act → World → Prop} (I : Array Bool → Act → World → Prop)
    (h0 : ∀ listed a w, I listed a w → Region.ready md ops listed = [] → Q .normal a w)
    (hs : ∀ listed a w i, I listed a w → i ∈ Region.ready md ops listed → wpOp P ops Q i (fun a' w' => I (listed.setIfInBounds i true) a' w') a w) :
    ∀ (f : Nat) (listed : Array Bool) (a : Act) (w : World), listed.toList.count false ≤ f → I listed a w → wpAny P md ops Q f listed a w
  | 0, listed, a, w, hc, hI => by
    have hr : Region.ready md ops listed = [] := by
      refine List.eq_nil_iff_forall_not_mem.2 fun i hi => ?_
      have := count_set (mem_ready.1 hi).1
      omega
    exact ⟨hr, h0 _ _ _ hI hr⟩
  | f + 1, listed, a, w, hc, hI => by
    refine ⟨h0 _ _ _ hI, fun i hi => ?_⟩
    have hcs := count_set (mem_ready.1 hi).1
    exact wpOp_mono (fun a' w' h' => wpAny_inv I h0 hs f _ a' w' (by omega) h') (hs _ _ _ i hI hi)
theorem getD_up {l : Array Bool} {i : Nat} (h : l.getD i false = true) : l.getD i true = true := by
  cases h1 : l.getD i true with
  | true => rfl
  | false => rw [getD_both h1] at h; cases h
theorem getD_set_self {l : Array Bool} {i : Nat} : (l.setIfInBounds i true).getD i true = true := by
  rcases Nat.lt_or_ge i l.size with h | h
  · simp [h]
  · rw [Array.getD_eq_getD_getElem?, Array.getElem?_eq_none (by simpa using h)]; rfl
theorem getD_set_keep {l : Array Bool} {i j : Nat} (h : l.getD j true = true) : (l.setIfInBounds i true).getD j true = true := by
  by_cases hij : i = j
  · subst hij; exact getD_set_self
  · rw [getD_set_ne true hij]; exact h
def zF : List Nat := [1, 2, 3, 5, 6, 7, 9, 10, 11, 13, 14, 15, 17, 18, 19, 21, 22, 23, 25, 26, 27]
def insF (l : Array Bool) (j : Nat) : Bool := l.getD (4 * j + 4) true
/-- what is so behind the map's making -/
structure FldAft (w : World) (g : Nat) (az : Act) (l : Array Bool) (a : Act) (W : World) (bm n : Nat) : Prop where
  low : w.heap.size ≤ bm
  bel : Below w.heap.size w W
  num : n + l.toList.count false ≤ 31
  map : FldMap W g bm n (insF l)
  act : (l.getD 29 true = false ∧ l.getD 30 true = false ∧ a = az.put (some 3) (.map (some bm))) ∨
    ((∀ j, j < 7 → insF l j = true) ∧ l.getD 29 true = true ∧ l.getD 30 true = false ∧ a = (az.put (some 3) (.map (some bm))).put (some 25) (.map (some bm))) ∨
    ((∀ j, j < 7 → insF l j = true) ∧ l.getD 29 true = true ∧ l.getD 30 true = true ∧ a = ((az.put (some 3) (.map (some bm))).put (some 25) (.map (some bm))).put (some 2) (.map (some bm)))
/-- the region's invariant: 'az' is the frame behind the plain operations -/
def FldInv (w : World) (g : Nat) (az : Act) (l : Array Bool) (a : Act) (W : World) : Prop :=
  l.size = 31 ∧ (∀ k ∈ zF, l.getD k true = true) ∧
  ((l.getD 0 true = false ∧ (∀ j, j < 7 → insF l j = false) ∧ l.getD 29 true = false ∧ l.getD 30 true = false ∧ a = az ∧ Below w.heap.size w W) ∨
   (l.getD 0 true = true ∧ ∃ bm n, FldAft w g az l a W bm n))
theorem count_le (l : Array Bool) (h : l.size = 31) : l.toList.count false ≤ 31 := by
  have h1 := List.count_le_length (a := false) (l := l.toList)
  rw [Array.length_toList, h] at h1
  exact h1
theorem FldInv.made {w W : World} {g : Nat} {az a : Act} {l : Array Bool} (h : FldInv w g az l a W) (hl : l.getD 0 true = false) : FldInv w g az (l.setIfInBounds 0 true) (a.put (some 3) (.map (some W.heap.size))) (W.alloc (.map #[] 0)) := by
  obtain ⟨hs, hz, h | h⟩ := h
  · obtain ⟨_, h1, h2, h3, rfl, hb⟩ := h
    have hc := count_set hl
    have hc2 := count_le l hs
    refine ⟨by simpa using hs, fun k hk => getD_set_keep (hz k hk), .inr ⟨getD_set_self, W.heap.size, 0, hb.size, hb.alloc hb.size _, by omega, ?_, .inl ⟨by rw [getD_set_ne true (by omega)]; exact h2, by rw [getD_set_ne true (by omega)]; exact h3, rfl⟩⟩⟩
    obtain ⟨D, m1, m2⟩ := FldMap.made W g
    refine ⟨D, m1, fun j k hk => ?_⟩
    have hj : j < 7 := (List.getElem?_eq_some_iff.1 hk).1
    rw [m2 j k hk]
    have : insF (l.setIfInBounds 0 true) j = false := by
      have := h1 j hj
      unfold insF at this ⊢
      rw [getD_set_ne true (by omega)]; exact this
    rw [this]
  · rw [hl] at h; cases h.1
theorem FldInv.ins {w W W' : World} {g : Nat} {az a : Act} {l : Array Bool} {bm n j : Nat} (hs : l.size = 31) (hz : ∀ k ∈ zF, l.getD k true = true) (h0 : l.getD 0 true = true) (h : FldAft w g az l a W bm n) (hj : j < 7) (hl : insF l j = false)
    (hm : FldMap W' g bm (n + 1) (fun i => if i = j then true else insF l i)) (hg : W.grownBy W' (some bm)) : FldInv w g az (l.setIfInBounds (4 * j + 4) true) a W' := by
  have hc := count_set (l := l) (i := 4 * j + 4) hl
  obtain ⟨g1, g2, g3, g4, g5⟩ := h
  have hb : Below w.heap.size w W' := Below.only g2 ((Only.refl (fun k => k = bm) W).grown hg (fun g hg _ => (Option.some.inj hg).symm)) (fun x hx e => by omega) g2.size
  refine ⟨by simpa using hs, fun k hk => getD_set_keep (hz k hk), .inr ⟨getD_set_keep h0, bm, n + 1, g1, hb, by omega, ?_, ?_⟩⟩
  · obtain ⟨D, m1, m2⟩ := hm
    refine ⟨D, m1, fun i k hk => ?_⟩
    rw [m2 i k hk]
    by_cases hij : i = j
    · subst hij
      have : insF (l.setIfInBounds (4 * i + 4) true) i = true := getD_set_self
      rw [this]
      simp
    · have : insF (l.setIfInBounds (4 * j + 4) true) i = insF l i := getD_set_ne true (by omega)
      rw [this]
      simp [hij]
  · rcases g5 with ⟨e1, e2, e3⟩ | ⟨e0, _⟩ | ⟨e0, _⟩
    · exact .inl ⟨by rw [getD_set_ne true (by omega)]; exact e1, by rw [getD_set_ne true (by omega)]; exact e2, e3⟩
    · rw [e0 j hj] at hl; cases hl
    · rw [e0 j hj] at hl; cases hl
theorem FldInv.mv {w W : World} {g : Nat} {az a : Act} {l : Array Bool} {bm n : Nat} (hs : l.size = 31) (hz : ∀ k ∈ zF, l.getD k true = true) (h0 : l.getD 0 true = true) (h : FldAft w g az l a W bm n) (hl : l.getD 29 true = false) (hi : ∀ j, j < 7 → insF l j = true) :
    FldInv w g az (l.setIfInBounds 29 true) (a.put (some 25) (.map (some bm))) W := by
  have hc := count_set hl
  obtain ⟨g1, g2, g3, g4, g5⟩ := h
  have hin : ∀ j, j < 7 → insF (l.setIfInBounds 29 true) j = insF l j := fun j hj => getD_set_ne true (by omega)
  refine ⟨by simpa using hs, fun k hk => getD_set_keep (hz k hk), .inr ⟨getD_set_keep h0, bm, n, g1, g2, by omega, ?_, ?_⟩⟩
  · obtain ⟨D, m1, m2⟩ := g4
    exact ⟨D, m1, fun i k hk => by rw [m2 i k hk, hin i (List.getElem?_eq_some_iff.1 hk).1]⟩
  · rcases g5 with ⟨e1, e2, e3⟩ | ⟨_, e1, _⟩ | ⟨_, e1, _⟩
    · exact .inr (.inl ⟨fun j hj => by rw [hin j hj]; exact hi j hj, getD_set_self, by rw [getD_set_ne true (by omega)]; exact e2, by rw [e3]⟩)
    · rw [e1] at hl; cases hl
    · rw [e1] at hl; cases hl
theorem FldInv.fin {w W : World} {g : Nat} {az a : Act} {l : Array Bool} {bm n : Nat} (hs : l.size = 31) (hz : ∀ k ∈ zF, l.getD k true = true) (h0 : l.getD 0 true = true) (h : FldAft w g az l a W bm n) (hl : l.getD 30 true = false) (h29 : l.getD 29 true = true) :
    FldInv w g az (l.setIfInBounds 30 true) (a.put (some 2) (.map (some bm))) W := by
  have hc := count_set hl
  obtain ⟨g1, g2, g3, g4, g5⟩ := h
  have hin : ∀ j, j < 7 → insF (l.setIfInBounds 30 true) j = insF l j := fun j hj => getD_set_ne true (by omega)
  refine ⟨by simpa using hs, fun k hk => getD_set_keep (hz k hk), .inr ⟨getD_set_keep h0, bm, n, g1, g2, by omega, ?_, ?_⟩⟩
  · obtain ⟨D, m1, m2⟩ := g4
    exact ⟨D, m1, fun i k hk => by rw [m2 i k hk, hin i (List.getElem?_eq_some_iff.1 hk).1]⟩
  · rcases g5 with ⟨e1, e2, e3⟩ | ⟨e0, e1, e2, e3⟩ | ⟨_, _, e1, _⟩
    · rw [e1] at h29; cases h29
    · exact .inr (.inr ⟨fun j hj => by rw [hin j hj]; exact e0 j hj, by rw [getD_set_ne true (by omega)]; exact e1, getD_set_self, by rw [e3]⟩)
    · rw [e1] at hl; cases hl
theorem getD_dn {l : Array Bool} {i : Nat} (hi : i < l.size) (h : l.getD i true = true) : l.getD i false = true := by
  simp [hi] at h ⊢; exact h
def depB (ops : Array Oper) (i : Nat) (D : List Nat) : Bool := match ops[i]? with | some o => o.after.all (fun e => D.contains e.on && decide (e.on < 31)) | none => false
theorem ready_of {ops : Array Oper} {l : Array Bool} {i : Nat} {D : List Nat} (hs : l.size = 31) (hl : l.getD i true = false) (hb : depB ops i D = true) (hD : ∀ k ∈ D, l.getD k true = true) : i ∈ Region.ready .any ops l := by
  unfold depB at hb
  split at hb
  · rename_i o ho
    refine mem_ready.2 ⟨hl, o, ho, fun e he _ => ?_⟩
    rw [Array.all_eq_true'] at hb
    have h := hb e he
    simp only [Bool.and_eq_true, List.contains_eq_mem, decide_eq_true_eq] at h
    exact getD_dn (by omega) (hD e.on h.1)
  · cases hb
theorem lt_of_un {l : Array Bool} {i : Nat} (h : l.getD i true = false) : i < l.size := by
  rcases Nat.lt_or_ge i l.size with h1 | h1
  · exact h1
  · rw [Array.getD_eq_getD_getElem?, Array.getElem?_eq_none h1] at h; cases h
theorem place31 : ∀ i : Fin 31, i.val ∈ zF ∨ i.val = 0 ∨ (∃ j : Fin 7, i.val = 4 * j.val + 4) ∨ i.val = 29 ∨ i.val = 30 := by decide
theorem FldInv.last {w W : World} {g : Nat} {az a : Act} {l : Array Bool} {ops : Array Oper} (h : FldInv w g az l a W) (hr : Region.ready .any ops l = [])
    (b0 : depB ops 0 [] = true) (b1 : ((List.range 7).all fun j => depB ops (4 * j + 4) (0 :: zF)) = true) (b2 : depB ops 29 (List.range 29) = true) (b3 : depB ops 30 (List.range 30) = true) :
    ∃ bm n, w.heap.size ≤ bm ∧ Below w.heap.size w W ∧ n ≤ 31 ∧ FldMap W g bm n (fun _ => true) ∧ a = ((az.put (some 3) (.map (some bm))).put (some 25) (.map (some bm))).put (some 2) (.map (some bm)) := by
  have hno : ∀ i, i ∉ Region.ready .any ops l := fun i hi => by rw [hr] at hi; cases hi
  obtain ⟨hs, hz, h | ⟨h0, bm, n, h⟩⟩ := h
  · exact absurd (ready_of hs h.1 b0 (fun k hk => by cases hk)) (hno 0)
  · have hins : ∀ j, j < 7 → insF l j = true := fun j hj => by
      cases hc : insF l j with
      | true => rfl
      | false => exact absurd (ready_of hs hc (List.all_eq_true.1 b1 j (List.mem_range.2 hj)) (fun k hk => by rcases List.mem_cons.1 hk with rfl | hk; exact h0; exact hz k hk)) (hno _)
    have h28 : ∀ k ∈ List.range 29, l.getD k true = true := fun k hk => by
      have hk := List.mem_range.1 hk
      rcases place31 ⟨k, by omega⟩ with h | h | ⟨j, h⟩ | h | h
      · exact hz k h
      · dsimp only at h; rw [h]; exact h0
      · dsimp only at h; rw [h]; exact hins j.val j.isLt
      · dsimp only at h; omega
      · dsimp only at h; omega
    have h29 : l.getD 29 true = true := by
      cases hc : l.getD 29 true with
      | true => rfl
      | false => exact absurd (ready_of hs hc b2 h28) (hno 29)
    have h30 : l.getD 30 true = true := by
      cases hc : l.getD 30 true with
      | true => rfl
      | false =>
        refine absurd (ready_of hs hc b3 fun k hk => ?_) (hno 30)
        have hk := List.mem_range.1 hk
        by_cases h9 : k = 29
        · rw [h9]; exact h29
        · exact h28 k (List.mem_range.2 (by omega))
    obtain ⟨g1, g2, g3, ⟨D, m1, m2⟩, g5⟩ := h
    refine ⟨bm, n, g1, g2, by omega, ⟨D, m1, fun j k hk => by rw [m2 j k hk, hins j (List.getElem?_eq_some_iff.1 hk).1]⟩, ?_⟩
    rcases g5 with ⟨e1, _⟩ | ⟨_, _, e1, _⟩ | ⟨_, _, _, e⟩
    · rw [e1] at h29; cases h29
    · rw [e1] at h30; cases h30
    · exact e
theorem FldInv.beg {w W : World} {g : Nat} {az a : Act} {l : Array Bool} (h : FldInv w g az l a W) (hl : l.getD 0 true = false) : a = az := by
  rcases h.2.2 with h | h
  · exact h.2.2.2.2.1
  · rw [hl] at h; cases h.1
theorem FldInv.aft {w W : World} {g : Nat} {az a : Act} {l : Array Bool} (h : FldInv w g az l a W) (hl : l.getD 0 true = true) : ∃ bm n, FldAft w g az l a W bm n := by
  rcases h.2.2 with h | h
  · rw [hl] at h; cases h.1
  · exact h.2
def hasDep (ops : Array Oper) (i k : Nat) : Bool := match ops[i]? with | some o => o.after.any (fun e => e.on == k && Region.binds .any e) | none => false
theorem dep_of {ops : Array Oper} {l : Array Bool} {i k : Nat} (hr : i ∈ Region.ready .any ops l) (hb : hasDep ops i k = true) : l.getD k true = true := by
  obtain ⟨_, o, ho, hall⟩ := mem_ready.1 hr
  unfold hasDep at hb
  rw [ho] at hb
  dsimp only at hb
  rw [Array.any_eq_true'] at hb
  obtain ⟨e, he, h⟩ := hb
  simp only [Bool.and_eq_true, beq_iff_eq] at h
  rw [← h.1]
  exact getD_up (hall e he h.2)
/-- an insert: the map's letter stored -/
theorem FldInv.at_ins {w W : World} {g : Nat} {az a : Act} {l : Array Bool} {ops : Array Oper} {j : Nat} {k : Int} (h : FldInv w g az l a W) (hr : (4 * j + 4) ∈ Region.ready .any ops l) (hb : hasDep ops (4 * j + 4) 0 = true) (hk : fldKeys[j]? = some k) :
    ∃ bm W', a = az.put (some 3) (.map (some bm)) ∧ (Instr.mapUpdate 43 (.map (some bm)) (.int .i32 k) (.pointer (some ⟨g, j + 1, none⟩))).run Tryd.prog W = .ok () W' ∧ FldInv w g az (l.setIfInBounds (4 * j + 4) true) a W' := by
  have h0 := dep_of hr hb
  obtain ⟨bm, n, ha⟩ := h.aft h0
  have hun : insF l j = false := (mem_ready.1 hr).1
  have hj : j < 7 := (List.getElem?_eq_some_iff.1 hk).1
  obtain ⟨W', hrun, hm, hg⟩ := ha.map.store hk (by have := ha.num; unfold maxLen; omega)
  refine ⟨bm, W', ?_, hrun, FldInv.ins h.1 h.2.1 h0 ha hj hun hm hg⟩
  rcases ha.act with e | e | e
  · exact e.2.2
  · rw [e.1 j hj] at hun; cases hun
  · rw [e.1 j hj] at hun; cases hun
theorem FldAft.a29 {w W : World} {g bm n : Nat} {az a : Act} {l : Array Bool} (h : FldAft w g az l a W bm n) (hl : l.getD 29 true = false) : a = az.put (some 3) (.map (some bm)) := by
  rcases h.act with e | e | e
  · exact e.2.2
  · rw [e.2.1] at hl; cases hl
  · rw [e.2.1] at hl; cases hl
theorem FldAft.a30 {w W : World} {g bm n : Nat} {az a : Act} {l : Array Bool} (h : FldAft w g az l a W bm n) (hl : l.getD 30 true = false) (h29 : l.getD 29 true = true) : a = (az.put (some 3) (.map (some bm))).put (some 25) (.map (some bm)) := by
  rcases h.act with e | e | e
  · rw [e.1] at h29; cases h29
  · exact e.2.2.2
  · rw [e.2.2.1] at hl; cases hl
end Go.Proofs.YtcmkcgegdclllaaDoor
