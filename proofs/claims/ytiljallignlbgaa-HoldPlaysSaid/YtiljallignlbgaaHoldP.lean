/- Plain law of HoldPlays: a shelf that keeps a list of open holds, and a rack that keeps of each hold what it counts and how long it has, come to the same. Conditions: none beyond what each theorem states. -/
import Derived.Test.YtiljallignlbgaaStk
namespace Go.Proofs.Ytiljallignlbgaa
open Go.RowKit
set_option linter.unusedVariables false

structure Hd where
  id : Int
  count : Int
  life : Int
def Hd.cells (h : Hd) : List Value := [.int .i64 h.id, .int .i64 h.count, .int .i64 h.life]
theorem Hd.cells_len (h : Hd) : h.cells.length = 3 := rfl
def heldL : List Hd → Int
  | [] => 0
  | h :: l => h.count + heldL l
structure Shf where
  free : Int
  used : Int
  made : Int
  opn : List Hd
def Shf.new : Shf := ⟨0, 0, 0, []⟩
def Shf.stock (s : Shf) (id code : Int) : Stk := ⟨code, id, s.free, heldL s.opn, s.used⟩
/-- what is freed where a tick is over, and what stays open -/
def aged (h : Hd) : Hd := ⟨h.id, h.count, h.life - 1⟩
def overs : List Hd → Int
  | [] => 0
  | h :: l => (if h.life = 0 then h.count else 0) + overs l
def stays (l : List Hd) : List Hd := l.filter fun h => !(h.life == 0)
def idxH (id : Int) : List Hd → Nat → Int
  | [], _ => -1
  | h :: l, k => if h.id == id then k else idxH id l (k + 1)
def shutS (s : Shf) (id : Int) (toUsed : Bool) : Shf × Int :=
  if id < 1 ∨ s.made < id then (s, 6)
  else match s.opn.find? (fun h => h.id == id) with
    | none => (s, 10)
    | some h => (⟨if toUsed then s.free else s.free + h.count, if toUsed then s.used + h.count else s.used, s.made, s.opn.filter fun h => !(h.id == id)⟩, 0)
def countedB (o : Ordr) : Bool := decide (1 ≤ o.count) && decide (o.count ≤ 1048576)
def asksCount (k : Int) : Bool := k == 1 || k == 2 || k == 3 || k == 6
/-- the shelf behind an order, the id, the code -/
def Shf.order (s : Shf) (o : Ordr) : Shf × Int × Int :=
  if asksCount o.kind && !countedB o then (s, 0, 2)
  else if o.kind = 1 then (if 1048576 < s.free + heldL s.opn + s.used + o.count then (s, 0, 12) else (⟨s.free + o.count, s.used, s.made, s.opn⟩, 0, 0))
  else if o.kind = 2 then (if s.free < o.count then (s, 0, 9) else (⟨s.free - o.count, s.used + o.count, s.made, s.opn⟩, 0, 0))
  else if o.kind = 6 then (if s.used < o.count then (s, 0, 9) else (⟨s.free + o.count, s.used - o.count, s.made, s.opn⟩, 0, 0))
  else if o.kind = 3 then
    (if o.life < 1 ∨ 20 < o.life then (s, 0, 2) else if s.opn.length = 4 then (s, 0, 8) else if s.free < o.count then (s, 0, 9)
     else (⟨s.free - o.count, s.used, s.made + 1, s.opn ++ [⟨s.made + 1, o.count, o.life⟩]⟩, s.made + 1, 0))
  else if o.kind = 4 then ((shutS s o.id true).1, 0, (shutS s o.id true).2)
  else if o.kind = 5 then ((shutS s o.id false).1, 0, (shutS s o.id false).2)
  else if o.kind = 7 then (⟨s.free + overs (s.opn.map aged), s.used, s.made, stays (s.opn.map aged)⟩, 0, 0)
  else (s, 0, 3)
def Shf.does (s : Shf) (o : Ordr) : Shf × Stk := let r := s.order o; (r.1, r.1.stock r.2.1 r.2.2)

/-- what a shelf always is -/
structure Shf.ok (s : Shf) (K : Int) : Prop where
  free0 : 0 ≤ s.free
  used0 : 0 ≤ s.used
  made0 : 0 ≤ s.made
  madeK : s.made ≤ K
  all : s.free + heldL s.opn + s.used ≤ 1048576
  len : s.opn.length ≤ 4
  each : ∀ h ∈ s.opn, 1 ≤ h.id ∧ h.id ≤ s.made ∧ 1 ≤ h.count ∧ h.count ≤ 1048576 ∧ 1 ≤ h.life ∧ h.life ≤ 20
  ids : (s.opn.map (·.id)).Pairwise (· < ·)
theorem heldL_append (a b : List Hd) : heldL (a ++ b) = heldL a + heldL b := by
  induction a with
  | nil => simp [heldL]
  | cons h l ih => simp [heldL, ih]; omega
theorem heldL_nonneg {l : List Hd} (h : ∀ x ∈ l, 0 ≤ x.count) : 0 ≤ heldL l := by
  induction l with
  | nil => simp [heldL]
  | cons x l ih => have := h x (by simp); have := ih (fun y hy => h y (by simp [hy])); simp [heldL]; omega
theorem heldL_aged (l : List Hd) : heldL (l.map aged) = heldL l := by
  induction l with
  | nil => rfl
  | cons x l ih => simp [heldL, ih, aged]
theorem heldL_stays (l : List Hd) : heldL (stays l) + overs l = heldL l := by
  induction l with
  | nil => rfl
  | cons x l ih =>
    by_cases h : x.life = 0
    · have e : stays (x :: l) = stays l := by simp [stays, h]
      rw [e]; simp [overs, heldL, h]; omega
    · have e : stays (x :: l) = x :: stays l := by simp [stays, h]
      rw [e]; simp [overs, heldL, h]; omega
theorem overs_nonneg {l : List Hd} (h : ∀ x ∈ l, 0 ≤ x.count) : 0 ≤ overs l := by
  induction l with
  | nil => simp [overs]
  | cons x l ih => have := h x (by simp); have := ih (fun y hy => h y (by simp [hy])); simp [overs]; split <;> omega
theorem find_split {l : List Hd} {id : Int} {h : Hd} (hp : (l.map (·.id)).Pairwise (· < ·)) (hf : l.find? (fun h => h.id == id) = some h) :
    ∃ a b, l = a ++ h :: b ∧ h.id = id ∧ (l.filter fun h => !(h.id == id)) = a ++ b ∧ (∀ x ∈ a, (x.id == id) = false) := by
  induction l with
  | nil => cases hf
  | cons x l ih =>
    rw [List.map_cons, List.pairwise_cons] at hp
    rw [List.find?_cons] at hf
    cases hx : x.id == id with
    | true =>
      rw [hx] at hf
      injection hf with hf
      subst hf
      have hid : x.id = id := by simpa using hx
      refine ⟨[], l, rfl, hid, ?_, by simp⟩
      rw [List.filter_cons, hx]
      simp only [Bool.not_true, Bool.false_eq_true, if_false, List.nil_append]
      refine List.filter_eq_self.2 fun y hy => ?_
      have := hp.1 y.id (List.mem_map.2 ⟨y, hy, rfl⟩)
      have : (y.id == id) = false := by simp; omega
      rw [this]; rfl
    | false =>
      rw [hx] at hf
      obtain ⟨a, b, e1, e2, e3, e4⟩ := ih hp.2 hf
      refine ⟨x :: a, b, by rw [e1]; rfl, e2, ?_, fun y hy => ?_⟩
      · rw [List.filter_cons, hx, e3]; rfl
      · rcases List.mem_cons.1 hy with rfl | hy
        · exact hx
        · exact e4 y hy
theorem shut_ok {s : Shf} {K : Int} (h : s.ok K) (id : Int) (b : Bool) : (shutS s id b).1.ok K := by
  unfold shutS
  split
  · exact h
  · cases hf : s.opn.find? (fun h => h.id == id) with
    | none => exact h
    | some x =>
      obtain ⟨a, c, e1, e2, e3, e4⟩ := find_split h.ids hf
      have hx := h.each x (by rw [e1]; simp)
      have hh : heldL s.opn = heldL (a ++ c) + x.count := by rw [e1, heldL_append, heldL_append]; simp [heldL]; omega
      have hall := h.all
      have hsub : (a ++ c).Sublist s.opn := by rw [e1]; exact List.Sublist.append (List.Sublist.refl _) (List.sublist_cons_self _ _)
      have h1 := h.free0
      have h2 := h.used0
      dsimp only
      rw [e3]
      refine ⟨?_, ?_, h.made0, h.madeK, ?_, Nat.le_trans hsub.length_le h.len, fun y hy => h.each y (hsub.subset hy), List.Pairwise.sublist (hsub.map _) h.ids⟩
      · cases b <;> simp <;> omega
      · cases b <;> simp <;> omega
      · cases b <;> simp <;> omega
theorem order_ok {s : Shf} {K : Int} (h : s.ok K) (o : Ordr) : (s.order o).1.ok (K + 1) := by
  have hK : s.ok (K + 1) := { h with madeK := by have := h.madeK; omega }
  have hh : 0 ≤ heldL s.opn := heldL_nonneg fun x hx => by have := h.each x hx; omega
  have h1 := h.free0
  have h2 := h.used0
  have h3 := h.all
  have hcb : asksCount o.kind = true → countedB o = true → 1 ≤ o.count ∧ o.count ≤ 1048576 := fun _ hc => by simpa [countedB] using hc
  unfold Shf.order
  by_cases c0 : (asksCount o.kind && !countedB o) = true
  · rw [if_pos c0]; exact hK
  rw [if_neg c0]
  have hc : asksCount o.kind = true → 1 ≤ o.count ∧ o.count ≤ 1048576 := fun ha => hcb ha (by cases hb : countedB o with | true => rfl | false => rw [ha, hb] at c0; simp at c0)
  by_cases c1 : o.kind = 1
  · rw [if_pos c1]
    have := hc (by rw [c1]; rfl)
    split
    · exact hK
    · exact { hK with free0 := by dsimp only; omega, all := by dsimp only; omega }
  rw [if_neg c1]
  by_cases c2 : o.kind = 2
  · rw [if_pos c2]
    have := hc (by rw [c2]; rfl)
    split
    · exact hK
    · exact { hK with free0 := by dsimp only; omega, used0 := by dsimp only; omega, all := by dsimp only; omega }
  rw [if_neg c2]
  by_cases c6 : o.kind = 6
  · rw [if_pos c6]
    have := hc (by rw [c6]; rfl)
    split
    · exact hK
    · exact { hK with free0 := by dsimp only; omega, used0 := by dsimp only; omega, all := by dsimp only; omega }
  rw [if_neg c6]
  by_cases c3 : o.kind = 3
  · rw [if_pos c3]
    have hcn := hc (by rw [c3]; rfl)
    split
    · exact hK
    · rename_i hl
      split
      · exact hK
      · rename_i h4
        split
        · exact hK
        · refine ⟨by dsimp only; omega, h2, by have := h.made0; dsimp only; omega, by have := h.madeK; dsimp only; omega, ?_, ?_, ?_, ?_⟩
          · dsimp only; rw [heldL_append]; simp [heldL]; omega
          · have := h.len; dsimp only; simp; omega
          · intro x hx
            dsimp only at hx ⊢
            rcases List.mem_append.1 hx with hx | hx
            · have := h.each x hx; omega
            · rw [List.mem_singleton] at hx
              subst hx
              have := h.made0
              dsimp only
              omega
          · dsimp only
            rw [List.map_append, List.pairwise_append]
            refine ⟨h.ids, by simp, fun a ha b hb => ?_⟩
            obtain ⟨x, hx, rfl⟩ := List.mem_map.1 ha
            simp at hb
            subst hb
            have := h.each x hx
            omega
  rw [if_neg c3]
  by_cases c4 : o.kind = 4
  · rw [if_pos c4]; exact { shut_ok h o.id true with madeK := by have := (shut_ok h o.id true).madeK; dsimp only; omega }
  rw [if_neg c4]
  by_cases c5 : o.kind = 5
  · rw [if_pos c5]; exact { shut_ok h o.id false with madeK := by have := (shut_ok h o.id false).madeK; dsimp only; omega }
  rw [if_neg c5]
  by_cases c7 : o.kind = 7
  · rw [if_pos c7]
    have e1 := heldL_stays (s.opn.map aged)
    rw [heldL_aged] at e1
    have e2 : 0 ≤ overs (s.opn.map aged) := overs_nonneg fun x hx => by
      obtain ⟨y, hy, rfl⟩ := List.mem_map.1 hx
      have := h.each y hy
      simp [aged]; omega
    have hsub : (stays (s.opn.map aged)).Sublist (s.opn.map aged) := List.filter_sublist
    refine ⟨by dsimp only; omega, h2, h.made0, by have := h.madeK; dsimp only; omega, by dsimp only; omega, ?_, ?_, ?_⟩
    · have := hsub.length_le; rw [List.length_map] at this; have := h.len; dsimp only; omega
    · intro x hx
      dsimp only at hx ⊢
      have hx0 := (List.mem_filter.1 hx).2
      obtain ⟨y, hy, rfl⟩ := List.mem_map.1 (hsub.subset hx)
      have := h.each y hy
      simp [aged] at hx0 ⊢
      omega
    · dsimp only
      have := List.Pairwise.sublist (hsub.map (·.id)) (by
        rw [List.map_map]
        have e : ((fun x : Hd => x.id) ∘ aged) = fun x : Hd => x.id := rfl
        rw [e]
        exact h.ids)
      exact this
  rw [if_neg c7]
  exact hK

/-! ### the reference's rack -/
structure Rk where
  free : Int
  used : Int
  rows : List (Int × Int) -- of each hold: its count, and what it has left
def Rk.new : Rk := ⟨0, 0, []⟩
def heldR : List (Int × Int) → Int
  | [] => 0
  | (c, l) :: t => (if 0 < l then c else 0) + heldR t
def opensR : List (Int × Int) → Nat
  | [] => 0
  | (_, l) :: t => (if 0 < l then 1 else 0) + opensR t
def Rk.stock (r : Rk) (id code : Int) : Stk := ⟨code, id, r.free, heldR r.rows, r.used⟩
def agedR (x : Int × Int) : Int × Int := (x.1, if 0 < x.2 then x.2 - 1 else x.2)
def oversR : List (Int × Int) → Int
  | [] => 0
  | (c, l) :: t => (if l = 1 then c else 0) + oversR t
def Rk.order (r : Rk) (o : Ordr) : Rk × Int × Int :=
  if o.kind < 1 ∨ 7 < o.kind then (r, 0, 3)
  else if asksCount o.kind && !countedB o then (r, 0, 2)
  else if o.kind = 1 then (if 1048576 < r.free + heldR r.rows + r.used + o.count then (r, 0, 12) else (⟨r.free + o.count, r.used, r.rows⟩, 0, 0))
  else if o.kind = 2 then (if r.free < o.count then (r, 0, 9) else (⟨r.free - o.count, r.used + o.count, r.rows⟩, 0, 0))
  else if o.kind = 6 then (if r.used < o.count then (r, 0, 9) else (⟨r.free + o.count, r.used - o.count, r.rows⟩, 0, 0))
  else if o.kind = 3 then
    (if o.life < 1 ∨ 20 < o.life then (r, 0, 2) else if 4 ≤ opensR r.rows then (r, 0, 8) else if r.free < o.count then (r, 0, 9)
     else (⟨r.free - o.count, r.used, r.rows ++ [(o.count, o.life)]⟩, ((r.rows.length + 1 : Nat) : Int), 0))
  else if o.kind = 4 ∨ o.kind = 5 then
    (if o.id < 1 ∨ r.rows.length < o.id then (r, 0, 6)
     else match r.rows[o.id.toNat - 1]? with
      | none => (r, 0, 6)
      | some x => if x.2 = 0 then (r, 0, 10)
        else (⟨if o.kind = 4 then r.free else r.free + x.1, if o.kind = 4 then r.used + x.1 else r.used, r.rows.set (o.id.toNat - 1) (x.1, 0)⟩, 0, 0))
  else (⟨r.free + oversR r.rows, r.used, r.rows.map agedR⟩, 0, 0)
def Rk.does (r : Rk) (o : Ordr) : Rk × Stk := let x := r.order o; (x.1, x.1.stock x.2.1 x.2.2)

def opensL : List (Int × Int) → Int → List Hd
  | [], _ => []
  | (c, l) :: t, i => if 0 < l then ⟨i, c, l⟩ :: opensL t (i + 1) else opensL t (i + 1)
theorem opensL_cons (c t : Int) (l : List (Int × Int)) (i : Int) : opensL ((c, t) :: l) i = if 0 < t then ⟨i, c, t⟩ :: opensL l (i + 1) else opensL l (i + 1) := rfl
/-- both are one -/
structure SameS (s : Shf) (r : Rk) : Prop where
  free : s.free = r.free
  used : s.used = r.used
  made : s.made = r.rows.length
  opn : s.opn = opensL r.rows 1
  left : ∀ x ∈ r.rows, 0 ≤ x.2
theorem opensL_held (l : List (Int × Int)) : ∀ i, heldL (opensL l i) = heldR l := by
  induction l with
  | nil => intro i; rfl
  | cons x l ih => intro i; obtain ⟨c, t⟩ := x; unfold opensL heldR; split <;> simp [heldL, ih]
theorem opensL_len (l : List (Int × Int)) : ∀ i, (opensL l i).length = opensR l := by
  induction l with
  | nil => intro i; rfl
  | cons x l ih => intro i; obtain ⟨c, t⟩ := x; unfold opensL opensR; split <;> simp [ih]; omega
theorem opensL_append (a b : List (Int × Int)) : ∀ i, opensL (a ++ b) i = opensL a i ++ opensL b (i + a.length) := by
  induction a with
  | nil => intro i; simp [opensL]
  | cons x l ih =>
    intro i
    obtain ⟨c, t⟩ := x
    rw [List.cons_append, opensL_cons, opensL_cons, ih (i + 1), show i + 1 + (l.length : Int) = i + (((c, t) :: l).length : Int) by simp; omega]
    split <;> rfl
theorem opensL_ids (l : List (Int × Int)) : ∀ i, ∀ h ∈ opensL l i, i ≤ h.id ∧ h.id < i + l.length := by
  induction l with
  | nil => intro i h hh; cases hh
  | cons x l ih =>
    intro i h hh
    obtain ⟨c, t⟩ := x
    unfold opensL at hh
    rw [List.length_cons]
    split at hh
    · rcases List.mem_cons.1 hh with rfl | hh
      · dsimp only; omega
      · have := ih (i + 1) h hh; omega
    · have := ih (i + 1) h hh; omega
theorem opensL_aged (l : List (Int × Int)) (h0 : ∀ x ∈ l, 0 ≤ x.2) : ∀ i, stays ((opensL l i).map aged) = opensL (l.map agedR) i ∧ overs ((opensL l i).map aged) = oversR l := by
  induction l with
  | nil => intro i; exact ⟨rfl, rfl⟩
  | cons x l ih =>
    intro i
    obtain ⟨c, t⟩ := x
    have ht := h0 (c, t) (by simp)
    dsimp only at ht
    obtain ⟨e1, e2⟩ := ih (fun y hy => h0 y (by simp [hy])) (i + 1)
    rw [List.map_cons]
    by_cases hp : 0 < t
    · have ea : agedR (c, t) = (c, t - 1) := by simp [agedR, hp]
      rw [ea]
      unfold opensL oversR
      rw [if_pos hp, List.map_cons]
      by_cases h1 : t = 1
      · subst h1
        refine ⟨?_, ?_⟩
        · rw [if_neg (by omega), ← e1]; simp [stays, aged]
        · rw [overs, if_pos rfl, e2]; simp [aged]
      · refine ⟨?_, ?_⟩
        · rw [if_pos (by omega), ← e1]
          have hne : (t - 1 == 0) = false := by simp; omega
          simp [stays, aged, hne]
        · rw [overs, if_neg h1, e2]; simp [aged]; omega
    · have ea : agedR (c, t) = (c, t) := by simp [agedR, hp]
      rw [ea]
      unfold opensL oversR
      rw [if_neg hp, if_neg hp, e1, e2, if_neg (by omega)]
      exact ⟨rfl, by omega⟩
theorem opensL_find (l : List (Int × Int)) (h0 : ∀ x ∈ l, 0 ≤ x.2) (k : Nat) (x : Int × Int) (hx : l[k]? = some x) :
    ∀ i, (opensL l i).find? (fun h => h.id == i + k) = (if x.2 = 0 then none else some ⟨i + k, x.1, x.2⟩) ∧
      ((opensL l i).filter fun h => !(h.id == i + k)) = opensL (l.set k (x.1, 0)) i := by
  induction l generalizing k with
  | nil => simp at hx
  | cons y l ih =>
    intro i
    obtain ⟨c, t⟩ := y
    have ht := h0 (c, t) (by simp)
    dsimp only at ht
    cases k with
    | zero =>
      simp at hx
      subst hx
      have hrest : ∀ h ∈ opensL l (i + 1), (h.id == i + ((0 : Nat) : Int)) = false := fun h hh => by have := opensL_ids l (i + 1) h hh; simp; omega
      have hf : (opensL l (i + 1)).find? (fun h => h.id == i + ((0 : Nat) : Int)) = none := List.find?_eq_none.2 fun h hh => by rw [hrest h hh]; simp
      have hg : ((opensL l (i + 1)).filter fun h => !(h.id == i + ((0 : Nat) : Int))) = opensL l (i + 1) := List.filter_eq_self.2 fun h hh => by rw [hrest h hh]; rfl
      rw [List.set_cons_zero]
      unfold opensL
      rw [if_neg (by omega : ¬ (0 : Int) < 0)]
      by_cases hp : 0 < t
      · rw [if_pos hp, if_neg (by dsimp only; omega), List.find?_cons, List.filter_cons, hg]
        simp
      · rw [if_neg hp, if_pos (by dsimp only; omega)]
        exact ⟨hf, hg⟩
    | succ k =>
      simp at hx
      obtain ⟨e1, e2⟩ := ih (fun y hy => h0 y (by simp [hy])) k hx (i + 1)
      have e : i + 1 + (k : Int) = i + ((k + 1 : Nat) : Int) := by simp; omega
      rw [e] at e1 e2
      rw [List.set_cons_succ]
      unfold opensL
      by_cases hp : 0 < t
      · rw [if_pos hp, if_pos hp, List.find?_cons, List.filter_cons]
        have hne : (i == i + ((k + 1 : Nat) : Int)) = false := by simp; omega
        simp only [hne]
        exact ⟨e1, by rw [e2]; rfl⟩
      · rw [if_neg hp, if_neg hp]
        exact ⟨e1, e2⟩
theorem order_same {s : Shf} {r : Rk} {K : Int} (h : SameS s r) (hk : s.ok K) (o : Ordr) : SameS (s.order o).1 (r.order o).1 ∧ (s.order o).2 = (r.order o).2 := by
  obtain ⟨sf, su, sm, so⟩ := s
  obtain ⟨rf, ru, rr⟩ := r
  obtain ⟨h1, h2, h3, h4, h5⟩ := h
  dsimp only at h1 h2 h3 h4 h5
  subst h1 h2 h3 h4
  have hlen := hk.len
  dsimp only at hlen
  rw [opensL_len] at hlen
  unfold Shf.order Rk.order
  dsimp only
  simp only [opensL_held, opensL_len]
  have base : SameS ⟨sf, su, rr.length, opensL rr 1⟩ ⟨sf, su, rr⟩ := ⟨rfl, rfl, rfl, rfl, h5⟩
  by_cases ck : o.kind < 1 ∨ 7 < o.kind
  · rw [if_pos ck]
    have ha : asksCount o.kind = false := by unfold asksCount; simp; omega
    rw [ha]
    simp only [Bool.false_and, Bool.false_eq_true, if_false]
    rw [if_neg (by omega), if_neg (by omega), if_neg (by omega), if_neg (by omega), if_neg (by omega), if_neg (by omega), if_neg (by omega)]
    exact ⟨base, rfl⟩
  rw [if_neg ck]
  by_cases c0 : (asksCount o.kind && !countedB o) = true
  · rw [if_pos c0, if_pos c0]; exact ⟨base, rfl⟩
  rw [if_neg c0, if_neg c0]
  by_cases c1 : o.kind = 1
  · rw [if_pos c1, if_pos c1]
    split
    · exact ⟨base, rfl⟩
    · exact ⟨⟨rfl, rfl, rfl, rfl, h5⟩, rfl⟩
  rw [if_neg c1, if_neg c1]
  by_cases c2 : o.kind = 2
  · rw [if_pos c2, if_pos c2]
    split
    · exact ⟨base, rfl⟩
    · exact ⟨⟨rfl, rfl, rfl, rfl, h5⟩, rfl⟩
  rw [if_neg c2, if_neg c2]
  by_cases c6 : o.kind = 6
  · rw [if_pos c6, if_pos c6]
    split
    · exact ⟨base, rfl⟩
    · exact ⟨⟨rfl, rfl, rfl, rfl, h5⟩, rfl⟩
  rw [if_neg c6, if_neg c6]
  by_cases c3 : o.kind = 3
  · rw [if_pos c3, if_pos c3]
    by_cases l1 : o.life < 1 ∨ 20 < o.life
    · rw [if_pos l1, if_pos l1]; exact ⟨base, rfl⟩
    rw [if_neg l1, if_neg l1]
    by_cases l2 : opensR rr = 4
    · have l2' : 4 ≤ opensR rr := by omega
      rw [if_pos l2, if_pos l2']; exact ⟨base, rfl⟩
    have l2' : ¬ 4 ≤ opensR rr := by omega
    rw [if_neg l2, if_neg l2']
    by_cases l3 : sf < o.count
    · rw [if_pos l3, if_pos l3]; exact ⟨base, rfl⟩
    rw [if_neg l3, if_neg l3]
    refine ⟨⟨rfl, rfl, by simp, ?_, fun x hx => ?_⟩, by simp⟩
    · dsimp only
      rw [opensL_append]
      have e : opensL [(o.count, o.life)] (1 + (rr.length : Int)) = [⟨1 + rr.length, o.count, o.life⟩] := by unfold opensL; rw [if_pos (by omega)]; rfl
      rw [e, show (1 : Int) + rr.length = rr.length + 1 by omega]
    · rcases List.mem_append.1 hx with hx | hx
      · exact h5 x hx
      · rw [List.mem_singleton] at hx; subst hx; dsimp only; omega
  rw [if_neg c3, if_neg c3]
  have shut : ∀ b : Bool, (o.kind = 4 ↔ b = true) → SameS (shutS ⟨sf, su, rr.length, opensL rr 1⟩ o.id b).1 (if o.id < 1 ∨ (rr.length : Int) < o.id then ((⟨sf, su, rr⟩ : Rk), (0 : Int), (6 : Int))
     else match rr[o.id.toNat - 1]? with
      | none => (⟨sf, su, rr⟩, 0, 6)
      | some x => if x.2 = 0 then (⟨sf, su, rr⟩, 0, 10)
        else (⟨if o.kind = 4 then sf else sf + x.1, if o.kind = 4 then su + x.1 else su, rr.set (o.id.toNat - 1) (x.1, 0)⟩, 0, 0)).1 ∧ ((0 : Int), (shutS ⟨sf, su, rr.length, opensL rr 1⟩ o.id b).2) = (if o.id < 1 ∨ (rr.length : Int) < o.id then ((⟨sf, su, rr⟩ : Rk), (0 : Int), (6 : Int))
     else match rr[o.id.toNat - 1]? with
      | none => (⟨sf, su, rr⟩, 0, 6)
      | some x => if x.2 = 0 then (⟨sf, su, rr⟩, 0, 10)
        else (⟨if o.kind = 4 then sf else sf + x.1, if o.kind = 4 then su + x.1 else su, rr.set (o.id.toNat - 1) (x.1, 0)⟩, 0, 0)).2 := by
    intro b hb
    unfold shutS
    dsimp only
    by_cases hr : o.id < 1 ∨ (rr.length : Int) < o.id
    · rw [if_pos hr, if_pos hr]; exact ⟨base, rfl⟩
    rw [if_neg hr, if_neg hr]
    obtain ⟨k, hk1⟩ : ∃ k : Nat, o.id = ((1 : Int) + (k : Int)) := ⟨o.id.toNat - 1, by omega⟩
    have hkl : k < rr.length := by omega
    have e1 : o.id.toNat - 1 = k := by omega
    rw [e1, hk1]
    have hx : rr[k]? = some rr[k] := List.getElem?_eq_getElem hkl
    obtain ⟨f1, f2⟩ := opensL_find rr h5 k rr[k] hx 1
    have hx0 := h5 rr[k] (List.getElem_mem _)
    rw [f1, hx, f2]
    dsimp only
    by_cases hz : rr[k].2 = 0
    · rw [if_pos hz, if_pos hz]; exact ⟨base, rfl⟩
    · rw [if_neg hz, if_neg hz]
      refine ⟨⟨?_, ?_, by simp, rfl, fun y hy => ?_⟩, rfl⟩
      · cases b
        · have h4 : ¬ o.kind = 4 := by intro h; simpa using hb.1 h
          simp [h4]
        · simp [hb.2 rfl]
      · cases b
        · have h4 : ¬ o.kind = 4 := by intro h; simpa using hb.1 h
          simp [h4]
        · simp [hb.2 rfl]
      · rcases List.mem_or_eq_of_mem_set hy with hy | rfl
        · exact h5 y hy
        · exact Int.le_refl 0
  by_cases c4 : o.kind = 4
  · rw [if_pos c4, if_pos (.inl c4)]; exact shut true (by simp [c4])
  rw [if_neg c4]
  by_cases c5 : o.kind = 5
  · rw [if_pos c5, if_pos (.inr c5)]; exact shut false (by simp [c4])
  have c7 : o.kind = 7 := by omega
  have c45 : ¬ (o.kind = 4 ∨ o.kind = 5) := by omega
  rw [if_neg c5, if_pos c7, if_neg c45]
  obtain ⟨e1, e2⟩ := opensL_aged rr h5 1
  rw [e1, e2]
  refine ⟨⟨rfl, rfl, by simp, rfl, fun x hx => ?_⟩, rfl⟩
  obtain ⟨y, hy, rfl⟩ := List.mem_map.1 hx
  have := h5 y hy
  unfold agedR
  dsimp only
  split <;> omega
theorem stock_same {s : Shf} {r : Rk} (h : SameS s r) (id code : Int) : s.stock id code = r.stock id code := by
  unfold Shf.stock Rk.stock
  rw [h.free, h.used, h.opn, opensL_held]
theorem does_same {s : Shf} {r : Rk} {K : Int} (h : SameS s r) (hk : s.ok K) (o : Ordr) : SameS (s.does o).1 (r.does o).1 ∧ (s.does o).2 = (r.does o).2 := by
  obtain ⟨h1, h2⟩ := order_same h hk o
  refine ⟨h1, ?_⟩
  unfold Shf.does Rk.does
  dsimp only
  rw [h2]
  exact stock_same h1 _ _
/-- orders, one by one -/
def playS : Shf → List Ordr → List Stk
  | _, [] => []
  | s, o :: l => (s.does o).2 :: playS (s.does o).1 l
def playR' : Rk → List Ordr → List Stk
  | _, [] => []
  | r, o :: l => (r.does o).2 :: playR' (r.does o).1 l
theorem play_same (l : List Ordr) : ∀ (s : Shf) (r : Rk) (K : Int), SameS s r → s.ok K → playS s l = playR' r l := by
  induction l with
  | nil => intro s r K _ _; rfl
  | cons o l ih =>
    intro s r K h hk
    obtain ⟨h1, h2⟩ := does_same h hk o
    rw [playS, playR', h2, ih _ _ (K + 1) h1 (order_ok hk o)]
theorem new_same : SameS Shf.new Rk.new := ⟨rfl, rfl, rfl, rfl, fun _ h => by cases h⟩
theorem new_ok : Shf.new.ok 0 := ⟨Int.le_refl _, Int.le_refl _, Int.le_refl _, Int.le_refl _, by simp [Shf.new, heldL], by simp [Shf.new], (fun _ h => by cases h), by simp [Shf.new]⟩
end Go.Proofs.Ytiljallignlbgaa
