/- gossip.Play. Conditions: none beyond what each theorem states. -/
import Derived.Test.YthmnfbnaeggknaaGosG
namespace Go.Proofs.Ythmnfbnaeggknaa
open Go.RowKit
set_option linter.unusedVariables false

/-! ### slices of slices of entries -/
structure TabR where
  rs : List EnR
  A : Option Addr
  c : Nat
def TabR.val (t : TabR) : Value := .slice t.A t.rs.length t.c
def TabRd (w : World) (B : Nat) (t : TabR) : Prop := Reads w B 1 t.A t.rs.length (t.rs.map EnR.val) ∧ ∀ r ∈ t.rs, Reads w B 5 r.A r.es.length (r.es.flatMap entCells)
def St3 (w : World) (B : Nat) (v : Value) (P : List (List (List Ent))) : Prop :=
  ∃ A c, ∃ ts : List TabR, v = .slice A ts.length c ∧ Reads w B 1 A ts.length (ts.map TabR.val) ∧ (∀ t ∈ ts, TabRd w B t) ∧ ts.map (fun t => t.rs.map EnR.es) = P
theorem TabRd.below {w w' : World} {B : Nat} {t : TabR} (h : TabRd w B t) (hb : Below B w w') : TabRd w' B t := ⟨h.1.below hb, fun r hr => (h.2 r hr).below hb⟩
theorem TabRd.more {w : World} {B B' : Nat} {t : TabR} (h : TabRd w B t) (hb : B ≤ B') : TabRd w B' t := ⟨h.1.more hb, fun r hr => (h.2 r hr).more hb⟩
theorem St3.below {w w' : World} {B : Nat} {v : Value} {P : List (List (List Ent))} (h : St3 w B v P) (hb : Below B w w') : St3 w' B v P := by
  obtain ⟨A, c, ts, h1, h2, h3, h4⟩ := h
  exact ⟨A, c, ts, h1, h2.below hb, fun t ht => (h3 t ht).below hb, h4⟩
theorem St3.more {w : World} {B B' : Nat} {v : Value} {P : List (List (List Ent))} (h : St3 w B v P) (hb : B ≤ B') : St3 w B' v P := by
  obtain ⟨A, c, ts, h1, h2, h3, h4⟩ := h
  exact ⟨A, c, ts, h1, h2.more hb, fun t ht => (h3 t ht).more hb, h4⟩
theorem St3.nil (w : World) (B : Nat) : St3 w B (.slice none 0 0) [] := ⟨none, 0, [], rfl, Reads.none_, fun t h => by simp at h, rfl⟩
/-- turns, one by one -/
def runQ (m : Nat) (labs : List Nat) : List TurnI → List (List Slot) → List Int × List (List Slot)
  | [], Q => ([], Q)
  | t :: ts, Q => ((turnQ m labs t Q).1 :: (runQ m labs ts (turnQ m labs t Q).2).1, (runQ m labs ts (turnQ m labs t Q).2).2)
theorem runQ_snoc (m : Nat) (labs : List Nat) (t : TurnI) : ∀ (ts : List TurnI) (Q : List (List Slot)), runQ m labs (ts ++ [t]) Q = ((runQ m labs ts Q).1 ++ [(turnQ m labs t (runQ m labs ts Q).2).1], (turnQ m labs t (runQ m labs ts Q).2).2)
  | [], Q => rfl
  | x :: ts, Q => by
    rw [List.cons_append, runQ, runQ_snoc m labs t ts]
    rfl
theorem runQ_good {m n : Nat} (hm : m ≤ 8) (labs : List Nat) (hl : labs.length = n) : ∀ (ts : List TurnI) (T : Int) (Q : List (List Slot)), Goods T m n Q → 0 ≤ T → T + ts.length ≤ 1000000 → Goods (T + ts.length) m n (runQ m labs ts Q).2
  | [], T, Q, h, _, _ => by simpa [runQ] using h
  | t :: ts, T, Q, h, h0, hT => by
    simp only [List.length_cons] at hT
    have h1 := (turn_pl h (by omega) h0 hm labs hl t).2
    have h2 := runQ_good hm labs hl ts (T + 1) _ h1 (by omega) (by omega)
    rw [runQ]
    dsimp only
    rw [List.length_cons, show T + ((ts.length + 1 : Nat) : Int) = T + 1 + ts.length by omega]
    exact h2
theorem runQ_len (m : Nat) (labs : List Nat) : ∀ (ts : List TurnI) (Q : List (List Slot)), (runQ m labs ts Q).1.length = ts.length
  | [], Q => rfl
  | t :: ts, Q => by rw [runQ]; simp [runQ_len m labs ts]
def newQ (m n : Nat) : List (List Slot) := List.replicate m (newS n)
theorem newQ_good (m n : Nat) : Goods 0 m n (newQ m n) := ⟨by simp [newQ], fun q hq => by
  obtain rfl := List.eq_of_mem_replicate hq
  refine ⟨by simp [newS], fun p s hs h2 => ?_⟩
  obtain rfl := List.eq_of_mem_replicate (List.mem_of_getElem? hs)
  cases h2⟩
theorem newQ_pl (m n : Nat) : plE (List.replicate m (List.replicate n EnR.nil)) = plQ n (newQ m n) := by
  unfold plE plQ newQ
  rw [List.map_replicate, List.map_replicate, List.map_replicate]
  congr 1
  unfold rowsQ
  symm
  rw [List.eq_replicate_iff]
  refine ⟨by simp, fun x hx => ?_⟩
  obtain ⟨l, _, rfl⟩ := List.mem_map.1 hx
  show lsS (rowQ (newS n) l) = []
  unfold lsS
  rw [List.filterMap_eq_nil_iff]
  intro s hs
  obtain rfl := List.eq_of_mem_replicate (List.mem_of_mem_drop (List.mem_of_mem_take hs))
  rfl
def turnCells (t : TurnI) : List Value := (turnC t).toList
theorem turnCells_len (t : TurnI) : (turnCells t).length = 6 := rfl
/-- what Play answers: a code, codes of the turns, the places -/
def playQ (b : Int) (zs : List Int) (ts : List TurnI) : Int × List Int × List (List Slot) :=
  if b < 1 ∨ 8 < b ∨ zs.any (badLb b) = true then (2, [], [])
  else if 4 < zs.length ∨ 300 < ts.length then (1, [], [])
  else (0, (runQ b.toNat (zs.map Int.toNat) ts (newQ b.toNat zs.length)).1, (runQ b.toNat (zs.map Int.toNat) ts (newQ b.toNat zs.length)).2)
def PlayPost (b : Int) (zs : List Int) (ts : List TurnI) (w : World) (e : Ending) (w' : World) : Prop :=
  ∃ v1 v2, e = .returned (.tuple #[v1, v2, .int .i64 (playQ b zs ts).1]) ∧ w'.ownsRow w.heap.size 27 1 v1 (playQ b zs ts).2.1.length ((playQ b zs ts).2.1.map (.int .i64)) ∧ St3 w' w'.heap.size v2 (plQ zs.length (playQ b zs ts).2.2) ∧ Below w.heap.size w w'
theorem labs_ok (b : Nat) (hb : b ≤ 8) (zs : List Int) (h : zs.any (badLb b) = false) : zs = (zs.map Int.toNat).map (fun v : Nat => (v : Int)) ∧ ∀ v ∈ zs.map Int.toNat, v ≤ 255 := by
  have hp : (2:Nat) ^ b ≤ 2 ^ 8 := Nat.pow_le_pow_right (by omega) hb
  have hp' : (2:Int) ^ b ≤ 256 := by
    have : ((2 ^ b : Nat) : Int) ≤ 256 := by omega
    simpa using this
  have hz : ∀ z ∈ zs, 0 ≤ z ∧ z < 256 := fun z hz => by
    have := List.any_eq_false.1 h z hz
    unfold badLb at this
    simp only [Int.toNat_natCast] at this
    simp at this
    omega
  refine ⟨?_, fun v hv => ?_⟩
  · rw [List.map_map]
    conv => lhs; rw [← List.map_id zs]
    apply List.map_congr_left
    intro z hzz
    have := hz z hzz
    simp
    omega
  · obtain ⟨z, hzz, rfl⟩ := List.mem_map.1 hv
    have := hz z hzz
    omega
theorem rowlist_info : ∃ i, Try.prog.info? 22 = some i ∧ ∃ z, i.zero = some z ∧ z.cells.toList = [Value.slice none 0 0] ∧ i.size = 1 ∧ i.bytes = 24 := info_of_cells (by kernel_rfl)
theorem store_info : ∃ i, Try.prog.info? 58 = some i ∧ i.zero = some (.slice none 0 0) ∧ i.size = 1 ∧ i.bytes = 24 := info_of (by kernel_rfl)
theorem errno_info : ∃ i, Try.prog.info? 27 = some i ∧ i.zero = some (.int .i64 0) ∧ i.size = 1 ∧ i.bytes = 8 := info_of (by kernel_rfl)
theorem rows_info : ∃ i, Try.prog.info? 57 = some i ∧ i.zero = some (.slice none 0 0) ∧ i.size = 1 ∧ i.bytes = 24 := info_of (by kernel_rfl)
theorem made_nil (n : Nat) (z : Array Value) (hc : z.toList = [Value.slice none 0 0]) : madeCells z n = nilRow n := by
  unfold nilRow
  have hs : z.size = 1 := by have := congrArg List.length hc; simpa using this
  apply array_ext
  intro i
  rcases Nat.lt_or_ge i n with h | h
  · have e : z[0]? = z.toList[0]? := by simp
    rw [made_get z _ i (by omega) h, hs, Nat.mod_one, e, hc]
    simp [h]
  · rw [Array.getElem?_eq_none (by rw [size_madeCells]; exact h), Array.getElem?_eq_none (by simpa using h)]
set_option maxRecDepth 100000 in
set_option maxHeartbeats 4000000 in
theorem gosPlay_bad (A : Option Addr) (n c : Nat) (zs : List Int) (A' : Option Addr) (n' c' : Nat) (ts : List TurnI) (b : Int) (B : Nat) (w : World) (hl : zs.length = n) (hm : n ≤ maxLen) (hr : Reads w B 1 A n (zs.map (.int .i64))) (hz : ∀ z ∈ zs, (Lit.int .i64 z).wf = true) (hl' : ts.length = n') (hB : B ≤ w.heap.size) (hbad : b < 1 ∨ 8 < b ∨ zs.any (badLb b) = true ∨ 4 < zs.length ∨ 300 < ts.length) :
    Calls Try.prog 17 #[.int .i64 b, .slice A n c, .slice A' n' c'] w (PlayPost b zs ts w) := by
  have hfin : ∀ (x : Int) W, Below w.heap.size w W → playQ b zs ts = (x, [], []) → PlayPost b zs ts w (.returned (.tuple #[.slice none 0 0, .slice none 0 0, .int .i64 x])) W := fun x W hW hp => by
    unfold PlayPost
    rw [hp]
    exact ⟨_, _, rfl, World.ownsRow_nil _ _ _ _, St3.nil _ _, hW⟩
  have HFIN := hide hfin
  clear hfin
  have hb1 : Below w.heap.size w (w.alloc (.cells #[.int .i64 b] 3)) := (Below.refl _ _).alloc (Nat.le_refl _) _
  by_cases c1 : b < 1
  · have HP := hide (show playQ b zs ts = (2, [], []) by unfold playQ; rw [if_pos (Or.inl c1)])
    have HB := hide hb1
    clear hb1 hbad
    go_enter Try.func17, Try.ntmps17
    go_wp2_with fail
    go_ret3
    exact unhide HFIN _ _ (unhide HB) (unhide HP)
  by_cases c2 : 8 < b
  · have HP := hide (show playQ b zs ts = (2, [], []) by unfold playQ; rw [if_pos (Or.inr (Or.inl c2))])
    have HB := hide hb1
    clear hb1 hbad
    go_enter Try.func17, Try.ntmps17
    go_wp2_with fail
    go_ret3
    exact unhide HFIN _ _ (unhide HB) (unhide HP)
  obtain ⟨b, rfl⟩ : ∃ z : Nat, b = z := ⟨b.toNat, by omega⟩
  have hb8 : b ≤ 8 := by omega
  obtain ⟨w1, hw1⟩ : ∃ w1, w1 = w.alloc (.cells #[.int .i64 b] 3) := ⟨_, rfl⟩
  rw [← hw1] at hb1
  have kb : Blk w1 w.heap.size 3 #[.int .i64 b] := by rw [hw1]; exact Blk.new w _ _
  obtain ⟨p, hp⟩ : ∃ p, p = w.heap.size := ⟨_, rfl⟩
  rw [← hp] at kb
  have p0 : w1.cell? ⟨p, 0, none⟩ = some (.int .i64 b) := kb.cell 0
  have HCF := hide (intContains_any 32 #[.pointer (some ⟨p, 0, none⟩)] (badLb b) A n c zs B (fun W => W = w1) w1 hl hm (fun W hW => by rw [hW]; exact hr.below (hb1.mono hB)) rfl playClo_enters (fun z W hz' hW => by
    have hwf := wf_i64_bounds (hz z hz')
    rw [hW]
    exact (playClo_any z b hb8 hwf.2 p w1 p0).mono fun _ _ ⟨h1, h2⟩ => ⟨h1, h2.symm⟩))
  have HB := hide hb1
  have HW1 := hide hw1
  have HPP := hide hp
  have c1' : decide ((b : Int) < 1) = false := by simpa using c1
  have c2' : decide (8 < b) = false := by simp; omega
  have HPA := hide (show zs.any (badLb b) = true → playQ b zs ts = (2, [], []) from fun h => by unfold playQ; rw [if_pos (Or.inr (Or.inr h))])
  have HPB := hide (show zs.any (badLb b) = false → (4 < zs.length ∨ 300 < ts.length) → playQ b zs ts = (1, [], []) from fun h h2 => by unfold playQ; rw [if_neg (by rw [h]; simp; omega), if_pos h2])
  have HC := hide (show zs.any (badLb b) = false → 4 < n ∨ 300 < n' from fun h => by
    rcases hbad with h1 | h1 | h1 | h1 | h1
    · omega
    · omega
    · rw [h] at h1; cases h1
    · omega
    · omega)
  have HL := hide hl
  have HL' := hide hl'
  unfold maxLen at hm
  clear hb1 hw1 kb hp hl hl' hr hz hbad
  cases ha : zs.any (badLb b)
  all_goals
    rw [ha] at HCF HPA HPB HC
    go_enter Try.func17, Try.ntmps17
    go_upto_region 1 with fail
    rw [← unhide HW1, ← unhide HPP]
    go_wp2_with fail
    refine (unhide HCF).mono ?_
    rintro _ _ ⟨rfl, rfl⟩
  · have hc := unhide HC trivial
    have HP := hide (unhide HPB trivial (by rw [unhide HL, unhide HL']; exact hc))
    by_cases d1 : 4 < n
    · go_wp2_with fail
      go_ret3
      exact unhide HFIN _ _ (unhide HB) (unhide HP)
    · have d2 : 300 < n' := by omega
      go_wp2_with fail
      go_ret3
      exact unhide HFIN _ _ (unhide HB) (unhide HP)
  · go_wp2_with fail
    go_ret3
    exact unhide HFIN _ _ (unhide HB) (unhide HPA trivial)
end Go.Proofs.Ythmnfbnaeggknaa
