/- A broker's book, plainly: the program's state and the reference's, and that they answer alike. Conditions: none beyond what each theorem states. -/
import Derived.Test.YtiljallignlbgaaShareP
import Derived.Test.YtiljallignlbgaaShareQ
namespace Go.Proofs.Ytiljallignlbgaa
open Go.RowKit
set_option linter.unusedVariables false

def sumL : List Int → Int
  | [] => 0
  | x :: l => x + sumL l
theorem sumL_set : ∀ (l : List Int) (i : Nat) (x y : Int), l[i]? = some x → sumL (l.set i y) = sumL l - x + y
  | [], i, x, y, h => by simp at h
  | z :: l, 0, x, y, h => by simp at h; subst h; simp only [List.set_cons_zero, sumL]; omega
  | z :: l, i + 1, x, y, h => by simp at h; simp only [List.set_cons_succ, sumL, sumL_set l i x y h]; omega
theorem sumL_nonneg : ∀ (l : List Int), (∀ x ∈ l, 0 ≤ x) → 0 ≤ sumL l
  | [], _ => Int.le_refl _
  | x :: l, h => by have := h x (by simp); have := sumL_nonneg l (fun y hy => h y (by simp [hy])); simp only [sumL]; omega
theorem sumL_get : ∀ (l : List Int), (∀ x ∈ l, 0 ≤ x) → ∀ x ∈ l, x ≤ sumL l
  | [], _, x, hx => by cases hx
  | y :: l, h, x, hx => by
    have h0 := h y (by simp)
    have h1 := sumL_nonneg l (fun y hy => h y (by simp [hy]))
    rcases List.mem_cons.1 hx with rfl | hx
    · simp only [sumL]; omega
    · have := sumL_get l (fun y hy => h y (by simp [hy])) x hx
      simp only [sumL]; omega
theorem greedy_sum (ws : List Int) (c : Int) : ∀ r, 0 ≤ r → sumL (greedy c r ws) ≤ leastL ws c + r := by
  induction ws with
  | nil => intro r hr; simp [greedy, sumL, leastL]; omega
  | cons w l ih =>
    intro r hr
    rw [greedy]
    split
    · have := ih (r - 1) (by omega)
      simp only [sumL, leastL]; omega
    · have := ih r hr
      simp only [sumL, leastL]; omega
theorem gives_facts (total : Int) (ws : List Int) (ht : 0 ≤ total) (hw : ∀ w ∈ ws, 0 ≤ w ∧ w ≤ 1048576) : (gives total ws).length = ws.length ∧ (∀ x ∈ gives total ws, 0 ≤ x ∧ x ≤ 1048576) ∧ sumL (gives total ws) ≤ total := by
  have hl := lvlTo_level total ws ht hw
  refine ⟨greedy_len _ _ _, fun x hx => ?_, ?_⟩
  · obtain ⟨k, hk⟩ := List.getElem?_of_mem hx
    have hk2 : k < ws.length := by have := (List.getElem?_eq_some_iff.1 hk).1; unfold gives at this; rw [greedy_len] at this; exact this
    have h1 := greedy_bounds ws hw _ hl.1 _ k _ x (List.getElem?_eq_getElem hk2) hk
    have h2 := hw _ (List.getElem_mem hk2)
    omega
  · have h1 := greedy_sum ws (lvlTo total ws 1048576) (total - leastL ws (lvlTo total ws 1048576)) (by have := hl.2.1; omega)
    unfold gives
    omega
theorem splitP_rep (total most : Int) (nb : Nat) (h1 : 0 ≤ total ∧ total ≤ 1048576) (h2 : 0 ≤ most ∧ most ≤ 1048576) (h3 : nb ≤ 8) : splitP total (List.replicate nb most) = (gives total (List.replicate nb most), 0) := by
  unfold splitP
  rw [if_neg (by rw [List.length_replicate]; omega), if_pos]
  rw [Bool.and_eq_true]
  refine ⟨by unfold inRange; simpa using h1, (inRange_all _).2 fun w hw => ?_⟩
  have := List.eq_of_mem_replicate hw
  omega

/-- a book: what it holds -/
structure BkS where
  round : Int
  reserve : Int
  all : Int
  wants : List Int
  granted : List Int
  quota : List Int
def BkS.due (s : BkS) (i : Nat) : Int := min (s.wants.getD i 0 - s.granted.getD i 0) (s.quota.getD i 0)
def rndAt (s : BkS) (i : Nat) : BkS := { s with granted := s.granted.set i (s.granted.getD i 0 + s.due i), quota := s.quota.set i (s.quota.getD i 0 - s.due i), reserve := s.reserve - s.due i }
def rnd (s : BkS) : Nat → BkS
  | 0 => s
  | k + 1 => rndAt (rnd s k) k
def epoch (most : Int) (s : BkS) : BkS := { s with quota := gives s.reserve (List.replicate s.wants.length most) }
def roundB (most ticks : Int) (s : BkS) : BkS × (List Int × Int) :=
  let s1 := if s.round % ticks = 0 then epoch most s else s
  let s2 := rnd { s1 with round := s.round + 1 } s.wants.length
  (s2, s2.granted, if s.round % ticks = 0 then s.reserve else -1)
def stockB (s : BkS) (n : Int) : BkS := { s with reserve := s.reserve + n, all := s.all + n }
def wantB (s : BkS) (who : Nat) (n : Int) : BkS := { s with wants := s.wants.set who (max (s.wants.getD who 0) n) }
structure CallD where
  kind : Int
  who : Int
  count : Int
structure RulD where
  code : Int
  grants : List Int
  report : Int
def callB (most ticks : Int) (s : BkS) (c : CallD) : BkS × RulD :=
  if c.kind = 1 then
    if c.count < 1 ∨ 1048576 < c.count then (s, ⟨2, [], -1⟩) else if 1048576 < s.all + c.count then (s, ⟨12, [], -1⟩) else (stockB s c.count, ⟨0, [], -1⟩)
  else if c.kind = 2 then
    if c.who < 0 ∨ s.wants.length ≤ c.who ∨ c.count < 0 ∨ 1048576 < c.count then (s, ⟨2, [], -1⟩) else (wantB s c.who.toNat c.count, ⟨0, [], -1⟩)
  else if c.kind = 3 then ((roundB most ticks s).1, ⟨0, (roundB most ticks s).2.1, (roundB most ticks s).2.2⟩)
  else (s, ⟨3, [], -1⟩)
/-- what holds of a book of 'nb' branches that has gone through 'K' calls -/
structure BkS.ok (s : BkS) (nb : Nat) (K : Int) : Prop where
  lw : s.wants.length = nb
  lg : s.granted.length = nb
  lq : s.quota.length = nb
  rd : 0 ≤ s.round ∧ s.round ≤ K
  res : 0 ≤ s.reserve ∧ s.reserve ≤ s.all ∧ s.all ≤ 1048576
  w : ∀ x ∈ s.wants, 0 ≤ x ∧ x ≤ 1048576
  g : ∀ x ∈ s.granted, 0 ≤ x
  gw : ∀ (i : Nat) x y, s.granted[i]? = some x → s.wants[i]? = some y → x ≤ y
  q : ∀ x ∈ s.quota, 0 ≤ x
  qs : sumL s.quota ≤ s.reserve
theorem getD_of {l : List Int} {i : Nat} {x : Int} (h : l[i]? = some x) : l.getD i 0 = x := by simp [List.getD_eq_getElem?_getD, h]
theorem get_of_lt {l : List Int} {i n : Nat} (hl : l.length = n) (hi : i < n) : l[i]? = some (l.getD i 0) := by
  rw [List.getD_eq_getElem?_getD, List.getElem?_eq_getElem (by omega)]; rfl
theorem BkS.ok.due_ {s : BkS} {nb : Nat} {K : Int} (h : s.ok nb K) {i : Nat} (hi : i < nb) : 0 ≤ s.due i ∧ s.due i ≤ s.quota.getD i 0 ∧ s.due i ≤ s.wants.getD i 0 - s.granted.getD i 0 ∧ s.due i ≤ s.reserve := by
  have h1 := h.gw i _ _ (get_of_lt h.lg hi) (get_of_lt h.lw hi)
  have h2 := h.q _ (List.mem_of_getElem? (get_of_lt h.lq hi))
  have h3 := sumL_get _ h.q _ (List.mem_of_getElem? (get_of_lt h.lq hi))
  have h4 := h.qs
  unfold BkS.due
  omega
theorem mem_set {l : List Int} {i : Nat} {x y : Int} (h : y ∈ l.set i x) : y ∈ l ∨ y = x := by
  rcases List.mem_or_eq_of_mem_set h with h | h
  · exact .inl h
  · exact .inr h
theorem rndAt_ok {s : BkS} {nb : Nat} {K : Int} (h : s.ok nb K) {i : Nat} (hi : i < nb) : (rndAt s i).ok nb K := by
  obtain ⟨d0, d1, d2, d3⟩ := h.due_ hi
  have hr := h.res
  have hgi := h.g _ (List.mem_of_getElem? (get_of_lt h.lg hi))
  refine ⟨h.lw, by simp [rndAt, h.lg], by simp [rndAt, h.lq], h.rd, ⟨by simp only [rndAt]; omega, by simp only [rndAt]; omega, hr.2.2⟩, h.w, fun x hx => ?_, fun j x y hx hy => ?_, fun x hx => ?_, ?_⟩
  · rcases mem_set hx with hx | rfl
    · exact h.g x hx
    · omega
  · simp only [rndAt] at hx hy
    by_cases hij : i = j
    · subst hij
      rw [List.getElem?_set_self (by rw [h.lg]; exact hi)] at hx
      injection hx with hx
      have := getD_of hy
      omega
    · rw [List.getElem?_set_ne hij] at hx
      exact h.gw j x y hx hy
  · rcases mem_set hx with hx | rfl
    · exact h.q x hx
    · omega
  · simp only [rndAt]
    rw [sumL_set _ _ _ _ (get_of_lt h.lq hi)]
    have := h.qs
    omega
theorem rnd_ok {s : BkS} {nb : Nat} {K : Int} (h : s.ok nb K) : ∀ k, k ≤ nb → (rnd s k).ok nb K
  | 0, _ => h
  | k + 1, hk => rndAt_ok (rnd_ok h k (by omega)) (by omega)
theorem epoch_ok {s : BkS} {nb : Nat} {K most : Int} (h : s.ok nb K) (hm : 0 ≤ most ∧ most ≤ 1048576) : (epoch most s).ok nb K := by
  obtain ⟨h1, h2, h3⟩ := gives_facts s.reserve (List.replicate s.wants.length most) h.res.1 (fun w hw => by have := List.eq_of_mem_replicate hw; omega)
  refine ⟨h.lw, h.lg, by simp only [epoch]; rw [h1, List.length_replicate, h.lw], h.rd, h.res, h.w, h.g, h.gw, fun x hx => (h2 x hx).1, h3⟩
theorem round_ok {s : BkS} {nb : Nat} {K most ticks : Int} (h : s.ok nb K) (hm : 0 ≤ most ∧ most ≤ 1048576) : (roundB most ticks s).1.ok nb (K + 1) := by
  have key : ∀ t : BkS, t.ok nb K → t.round = s.round → t.wants = s.wants → (rnd { t with round := s.round + 1 } s.wants.length).ok nb (K + 1) := fun t ht hr hw => by
    have h0 : ({ t with round := s.round + 1 } : BkS).ok nb (K + 1) := ⟨ht.lw, ht.lg, ht.lq, (show 0 ≤ s.round + 1 ∧ s.round + 1 ≤ K + 1 by have := h.rd; omega), ht.res, ht.w, ht.g, ht.gw, ht.q, ht.qs⟩
    exact rnd_ok h0 _ (by rw [h.lw]; exact Nat.le_refl _)
  unfold roundB
  dsimp only
  split
  · exact key _ (epoch_ok h hm) rfl rfl
  · exact key _ h rfl rfl
theorem stock_ok {s : BkS} {nb : Nat} {K n : Int} (h : s.ok nb K) (hn : 0 ≤ n) (ha : s.all + n ≤ 1048576) : (stockB s n).ok nb (K + 1) := by
  have := h.res
  have := h.rd
  have := h.qs
  refine ⟨h.lw, h.lg, h.lq, ⟨?_, ?_⟩, ⟨?_, ?_, ?_⟩, h.w, h.g, h.gw, h.q, ?_⟩ <;> simp only [stockB] <;> omega
theorem want_ok {s : BkS} {nb : Nat} {K n : Int} {who : Nat} (h : s.ok nb K) (hw : who < nb) (hn : 0 ≤ n ∧ n ≤ 1048576) : (wantB s who n).ok nb (K + 1) := by
  have hx := h.w _ (List.mem_of_getElem? (get_of_lt h.lw hw))
  refine ⟨by simp [wantB, h.lw], h.lg, h.lq, by have := h.rd; simp only [wantB]; omega, h.res, fun x hx => ?_, h.g, fun j x y hx hy => ?_, h.q, h.qs⟩
  · rcases mem_set hx with hx | rfl
    · exact h.w x hx
    · omega
  · simp only [wantB] at hx hy
    by_cases hij : who = j
    · subst hij
      rw [List.getElem?_set_self (by rw [h.lw]; exact hw)] at hy
      injection hy with hy
      have := h.gw who x _ hx (get_of_lt h.lw hw)
      omega
    · rw [List.getElem?_set_ne hij] at hy
      exact h.gw j x y hx hy
theorem ok_more {s : BkS} {nb : Nat} {K L : Int} (h : s.ok nb K) (hL : K ≤ L) : s.ok nb L := { h with rd := ⟨h.rd.1, Int.le_trans h.rd.2 hL⟩ }
theorem call_ok {s : BkS} {nb : Nat} {K most ticks : Int} (h : s.ok nb K) (hm : 0 ≤ most ∧ most ≤ 1048576) (c : CallD) : (callB most ticks s c).1.ok nb (K + 1) := by
  unfold callB
  split
  · split
    · exact ok_more h (by omega)
    split
    · exact ok_more h (by omega)
    · exact stock_ok h (by omega) (by omega)
  split
  · split
    · exact ok_more h (by omega)
    · have := h.lw
      exact want_ok h (by omega) (by omega)
  split
  · exact round_ok h hm
  · exact ok_more h (by omega)
def BkS.new (nb : Nat) : BkS := ⟨0, 0, 0, List.replicate nb 0, List.replicate nb 0, List.replicate nb 0⟩
theorem sumL_rep (n : Nat) : sumL (List.replicate n 0) = 0 := by
  induction n with
  | zero => rfl
  | succ n ih => rw [List.replicate_succ, sumL, ih]; rfl
theorem new_okB (nb : Nat) : (BkS.new nb).ok nb 0 := by
  have hz : ∀ x ∈ List.replicate nb (0 : Int), x = 0 := fun x hx => List.eq_of_mem_replicate hx
  refine ⟨by simp [BkS.new], by simp [BkS.new], by simp [BkS.new], by simp [BkS.new], by simp [BkS.new], fun x hx => ?_, fun x hx => ?_, fun i x y hx hy => ?_, fun x hx => ?_, ?_⟩
  · have := hz x hx; omega
  · have := hz x hx; omega
  · have := hz x (List.mem_of_getElem? hx); have := hz y (List.mem_of_getElem? hy); omega
  · have := hz x hx; omega
  · simp only [BkS.new]; rw [sumL_rep]; omega

/-! ### the reference's broker -/
structure BrS where
  rounds : Int
  reserve : Int
  ever : Int
  wants : List Int
  given : List Int
  since : List Int
  quotas : List Int
def BrS.due (s : BrS) (i : Nat) : Int :=
  if s.given.getD i 0 < s.wants.getD i 0 ∧ s.since.getD i 0 < s.quotas.getD i 0 then min (s.wants.getD i 0 - s.given.getD i 0) (s.quotas.getD i 0 - s.since.getD i 0) else 0
def gvAt (s : BrS) (i : Nat) : BrS := { s with given := s.given.set i (s.given.getD i 0 + s.due i), since := s.since.set i (s.since.getD i 0 + s.due i), reserve := s.reserve - s.due i }
def gv (s : BrS) : Nat → BrS
  | 0 => s
  | k + 1 => gvAt (gv s k) k
def openR (most : Int) (nb : Nat) (s : BrS) : BrS := { s with quotas := gives s.reserve (List.replicate nb most), since := List.replicate nb 0 }
def givesR (most ticks : Int) (nb : Nat) (s : BrS) : BrS × (List Int × Int) :=
  let s1 := if s.rounds = 0 then openR most nb s else s
  let s2 := gv { s1 with rounds := (s.rounds + 1) % ticks } nb
  (s2, s2.given, if s.rounds = 0 then s.reserve else -1)
def callR (most ticks : Int) (nb : Nat) (s : BrS) (c : CallD) : BrS × RulD :=
  if c.kind = 3 then ((givesR most ticks nb s).1, ⟨0, (givesR most ticks nb s).2.1, (givesR most ticks nb s).2.2⟩)
  else if c.kind = 1 ∧ (c.count < 1 ∨ 1048576 < c.count) then (s, ⟨2, [], -1⟩)
  else if c.kind = 1 ∧ 1048576 < s.ever + c.count then (s, ⟨12, [], -1⟩)
  else if c.kind = 1 then ({ s with ever := s.ever + c.count, reserve := s.reserve + c.count }, ⟨0, [], -1⟩)
  else if c.kind = 2 ∧ (c.who < 0 ∨ nb ≤ c.who ∨ c.count < 0 ∨ 1048576 < c.count) then (s, ⟨2, [], -1⟩)
  else if c.kind = 2 then ({ s with wants := if s.wants.getD c.who.toNat 0 < c.count then s.wants.set c.who.toNat c.count else s.wants }, ⟨0, [], -1⟩)
  else (s, ⟨3, [], -1⟩)
structure SameB (ticks : Int) (nb : Nat) (s : BkS) (r : BrS) : Prop where
  rd : r.rounds = s.round % ticks
  res : r.reserve = s.reserve
  all : r.ever = s.all
  w : r.wants = s.wants
  g : r.given = s.granted
  ls : r.since.length = nb
  lq : r.quotas.length = nb
  q : ∀ i, i < nb → s.quota.getD i 0 = r.quotas.getD i 0 - r.since.getD i 0
  bd : ∀ i, i < nb → 0 ≤ r.since.getD i 0 ∧ r.since.getD i 0 ≤ r.quotas.getD i 0 ∧ r.quotas.getD i 0 ≤ 1048576
theorem due_same {ticks : Int} {nb : Nat} {s : BkS} {r : BrS} {K : Int} (h : SameB ticks nb s r) (ho : s.ok nb K) {i : Nat} (hi : i < nb) : r.due i = s.due i := by
  have h1 := h.q i hi
  have h2 := h.bd i hi
  have h3 := ho.gw i _ _ (get_of_lt ho.lg hi) (get_of_lt ho.lw hi)
  unfold BrS.due BkS.due
  rw [h.w, h.g]
  split
  · omega
  · omega
theorem getD_set {l : List Int} {i j : Nat} {x : Int} (hi : i < l.length) : (l.set i x).getD j 0 = if i = j then x else l.getD j 0 := by
  rw [List.getD_eq_getElem?_getD, List.getD_eq_getElem?_getD, List.getElem?_set]
  split
  · rename_i h; subst h; first | rfl | simp [hi]
  · rfl
theorem at_same {ticks : Int} {nb : Nat} {s : BkS} {r : BrS} {K : Int} (h : SameB ticks nb s r) (ho : s.ok nb K) {i : Nat} (hi : i < nb) : SameB ticks nb (rndAt s i) (gvAt r i) := by
  have hd := due_same h ho hi
  obtain ⟨d0, d1, d2, d3⟩ := ho.due_ hi
  refine ⟨h.rd, by simp only [gvAt, rndAt]; rw [hd, h.res], h.all, h.w, by simp only [gvAt, rndAt]; rw [hd, h.g], by simp [gvAt, h.ls], h.lq, fun j hj => ?_, fun j hj => ?_⟩
  · simp only [gvAt, rndAt]
    rw [getD_set (by rw [ho.lq]; exact hi), getD_set (by rw [h.ls]; exact hi), hd]
    have := h.q j hj
    split
    · rename_i e; subst e; omega
    · exact this
  · simp only [gvAt]
    rw [getD_set (by rw [h.ls]; exact hi), hd]
    have h1 := h.q j hj
    have h2 := h.bd j hj
    split
    · rename_i e; subst e; omega
    · exact h2
theorem gv_same {ticks : Int} {nb : Nat} {s : BkS} {r : BrS} {K : Int} (h : SameB ticks nb s r) (ho : s.ok nb K) : ∀ k, k ≤ nb → SameB ticks nb (rnd s k) (gv r k)
  | 0, _ => h
  | k + 1, hk => at_same (gv_same h ho k (by omega)) (rnd_ok ho k (by omega)) (by omega)
theorem gives_same {most ticks : Int} {nb : Nat} {s : BkS} {r : BrS} {K : Int} (h : SameB ticks nb s r) (ho : s.ok nb K) (hm : 0 ≤ most ∧ most ≤ 1048576) (ht : 1 ≤ ticks) : SameB ticks nb (roundB most ticks s).1 (givesR most ticks nb r).1 ∧ (roundB most ticks s).2 = (givesR most ticks nb r).2 := by
  have hrd : (s.round + 1) % ticks = (r.rounds + 1) % ticks := by rw [h.rd]; simp [Int.add_emod]
  have hK : (s.round + 1) ≤ K + 1 := by have := ho.rd; omega
  have key : ∀ (t : BkS) (u : BrS), SameB ticks nb t u → t.ok nb K → SameB ticks nb (rnd { t with round := s.round + 1 } nb) (gv { u with rounds := (r.rounds + 1) % ticks } nb) := fun t u hs ht => by
    have h0 : ({ t with round := s.round + 1 } : BkS).ok nb (K + 1) := ⟨ht.lw, ht.lg, ht.lq, (show 0 ≤ s.round + 1 ∧ s.round + 1 ≤ K + 1 by have := ho.rd; omega), ht.res, ht.w, ht.g, ht.gw, ht.q, ht.qs⟩
    have hs0 : SameB ticks nb ({ t with round := s.round + 1 } : BkS) ({ u with rounds := (r.rounds + 1) % ticks } : BrS) := ⟨hrd.symm, hs.res, hs.all, hs.w, hs.g, hs.ls, hs.lq, hs.q, hs.bd⟩
    exact gv_same hs0 h0 nb (Nat.le_refl _)
  unfold roundB givesR
  dsimp only
  rw [← h.rd, ho.lw, h.res]
  by_cases h0 : r.rounds = 0
  · simp only [if_pos h0]
    have h1 := key (epoch most s) (openR most nb r) (by
      obtain ⟨g1, g2, g3⟩ := gives_facts s.reserve (List.replicate s.wants.length most) ho.res.1 (fun w hw => by have := List.eq_of_mem_replicate hw; omega)
      rw [ho.lw] at g1 g2
      rw [List.length_replicate] at g1
      have hz : ∀ i, (List.replicate nb (0 : Int)).getD i 0 = 0 := fun i => by rw [List.getD_eq_getElem?_getD, List.getElem?_replicate]; split <;> rfl
      refine ⟨h.rd, h.res, h.all, h.w, h.g, by simp [openR], by simp only [openR]; rw [h.res]; exact g1, fun i hi => ?_, fun i hi => ?_⟩
      · simp only [epoch, openR]
        rw [hz, h.res, ho.lw]
        omega
      · simp only [openR]
        rw [hz, h.res]
        have := g2 _ (List.mem_of_getElem? (get_of_lt g1 hi))
        omega) (epoch_ok ho hm)
    refine ⟨h1, ?_⟩
    rw [h1.g]
  · simp only [if_neg h0]
    have h1 := key s r h ho
    refine ⟨h1, ?_⟩
    rw [h1.g]
theorem call_same {most ticks : Int} {nb : Nat} {s : BkS} {r : BrS} {K : Int} (h : SameB ticks nb s r) (ho : s.ok nb K) (hm : 0 ≤ most ∧ most ≤ 1048576) (ht : 1 ≤ ticks) (c : CallD) : SameB ticks nb (callB most ticks s c).1 (callR most ticks nb r c).1 ∧ (callB most ticks s c).2 = (callR most ticks nb r c).2 := by
  by_cases h3 : c.kind = 3
  · have eB : callB most ticks s c = ((roundB most ticks s).1, ⟨0, (roundB most ticks s).2.1, (roundB most ticks s).2.2⟩) := by unfold callB; rw [if_neg (by omega), if_neg (by omega), if_pos h3]
    have eR : callR most ticks nb r c = ((givesR most ticks nb r).1, ⟨0, (givesR most ticks nb r).2.1, (givesR most ticks nb r).2.2⟩) := by unfold callR; rw [if_pos h3]
    obtain ⟨h1, h2⟩ := gives_same h ho hm ht
    rw [eB, eR]
    exact ⟨h1, by dsimp only; rw [h2]⟩
  by_cases h1 : c.kind = 1
  · by_cases h4 : c.count < 1 ∨ 1048576 < c.count
    · have eB : callB most ticks s c = (s, ⟨2, [], -1⟩) := by unfold callB; rw [if_pos h1, if_pos h4]
      have eR : callR most ticks nb r c = (r, ⟨2, [], -1⟩) := by unfold callR; rw [if_neg h3, if_pos ⟨h1, h4⟩]
      rw [eB, eR]
      exact ⟨h, rfl⟩
    by_cases h5 : 1048576 < s.all + c.count
    · have eB : callB most ticks s c = (s, ⟨12, [], -1⟩) := by unfold callB; rw [if_pos h1, if_neg h4, if_pos h5]
      have eR : callR most ticks nb r c = (r, ⟨12, [], -1⟩) := by unfold callR; rw [if_neg h3, if_neg (fun e : c.kind = 1 ∧ (c.count < 1 ∨ 1048576 < c.count) => h4 e.2), h.all, if_pos ⟨h1, h5⟩]
      rw [eB, eR]
      exact ⟨h, rfl⟩
    · have eB : callB most ticks s c = (stockB s c.count, ⟨0, [], -1⟩) := by unfold callB; rw [if_pos h1, if_neg h4, if_neg h5]
      have eR : callR most ticks nb r c = ({ r with ever := s.all + c.count, reserve := s.reserve + c.count }, ⟨0, [], -1⟩) := by unfold callR; rw [if_neg h3, if_neg (fun e : c.kind = 1 ∧ (c.count < 1 ∨ 1048576 < c.count) => h4 e.2), h.all, if_neg (fun e : c.kind = 1 ∧ 1048576 < s.all + c.count => h5 e.2), if_pos h1, h.res]
      rw [eB, eR]
      exact ⟨⟨h.rd, rfl, rfl, h.w, h.g, h.ls, h.lq, h.q, h.bd⟩, rfl⟩
  have eR0 : callR most ticks nb r c = if c.kind = 2 ∧ (c.who < 0 ∨ nb ≤ c.who ∨ c.count < 0 ∨ 1048576 < c.count) then (r, ⟨2, [], -1⟩)
      else if c.kind = 2 then ({ r with wants := if r.wants.getD c.who.toNat 0 < c.count then r.wants.set c.who.toNat c.count else r.wants }, ⟨0, [], -1⟩) else (r, ⟨3, [], -1⟩) := by
    unfold callR
    rw [if_neg h3, if_neg (fun e : c.kind = 1 ∧ (c.count < 1 ∨ 1048576 < c.count) => h1 e.1), if_neg (fun e : c.kind = 1 ∧ 1048576 < r.ever + c.count => h1 e.1), if_neg h1]
  by_cases h2 : c.kind = 2
  · have hl := ho.lw
    by_cases h4 : c.who < 0 ∨ nb ≤ c.who ∨ c.count < 0 ∨ 1048576 < c.count
    · have eB : callB most ticks s c = (s, ⟨2, [], -1⟩) := by unfold callB; rw [if_neg h1, if_pos h2, ho.lw, if_pos h4]
      rw [eB, eR0, if_pos ⟨h2, h4⟩]
      exact ⟨h, rfl⟩
    · have eB : callB most ticks s c = (wantB s c.who.toNat c.count, ⟨0, [], -1⟩) := by unfold callB; rw [if_neg h1, if_pos h2, ho.lw, if_neg h4]
      rw [eB, eR0, if_neg (fun e : c.kind = 2 ∧ _ => h4 e.2), if_pos h2]
      refine ⟨⟨h.rd, h.res, h.all, ?_, h.g, h.ls, h.lq, h.q, h.bd⟩, rfl⟩
      simp only [wantB]
      rw [h.w]
      split
      · rw [Int.max_eq_right (by omega)]
      · rw [Int.max_eq_left (by omega)]
        have hwn : c.who.toNat < nb := by omega
        apply List.ext_getElem?
        intro j
        rw [List.getElem?_set]
        split
        · rename_i e; subst e
          rw [if_pos (by rw [ho.lw]; exact hwn), get_of_lt ho.lw hwn]
        · rfl
  · have eB : callB most ticks s c = (s, ⟨3, [], -1⟩) := by unfold callB; rw [if_neg h1, if_neg h2, if_neg h3]
    rw [eB, eR0, if_neg (fun e : c.kind = 2 ∧ _ => h2 e.1), if_neg h2]
    exact ⟨h, rfl⟩
def playB (most ticks : Int) (s : BkS) : List CallD → List RulD
  | [] => []
  | c :: l => (callB most ticks s c).2 :: playB most ticks (callB most ticks s c).1 l
def playBr (most ticks : Int) (nb : Nat) (s : BrS) : List CallD → List RulD
  | [] => []
  | c :: l => (callR most ticks nb s c).2 :: playBr most ticks nb (callR most ticks nb s c).1 l
def BrS.new (nb : Nat) : BrS := ⟨0, 0, 0, List.replicate nb 0, List.replicate nb 0, List.replicate nb 0, List.replicate nb 0⟩
theorem play_sameB {most ticks : Int} {nb : Nat} (hm : 0 ≤ most ∧ most ≤ 1048576) (ht : 1 ≤ ticks) : ∀ (l : List CallD) (s : BkS) (r : BrS) (K : Int), SameB ticks nb s r → s.ok nb K → playB most ticks s l = playBr most ticks nb r l
  | [], _, _, _, _, _ => rfl
  | c :: l, s, r, K, h, ho => by
    obtain ⟨h1, h2⟩ := call_same h ho hm ht c
    rw [playB, playBr, h2, play_sameB hm ht l _ _ _ h1 (call_ok ho hm c)]
theorem new_sameB (ticks : Int) (nb : Nat) : SameB ticks nb (BkS.new nb) (BrS.new nb) := by
  have hz : ∀ i, (List.replicate nb (0 : Int)).getD i 0 = 0 := fun i => by rw [List.getD_eq_getElem?_getD, List.getElem?_replicate]; split <;> rfl
  refine ⟨by simp [BkS.new, BrS.new], rfl, rfl, rfl, rfl, by simp [BrS.new], by simp [BrS.new], fun i _ => ?_, fun i _ => ?_⟩
  · simp only [BkS.new, BrS.new]; rw [hz]; omega
  · simp only [BrS.new]; rw [hz]; omega
end Go.Proofs.Ytiljallignlbgaa
