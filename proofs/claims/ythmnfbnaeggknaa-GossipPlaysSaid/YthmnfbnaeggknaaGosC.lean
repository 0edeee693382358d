/- gossip: In; how the house lies in memory; there. Conditions: none beyond what each theorem states. -/
import Derived.Test.YthmnfbnaeggknaaGosB
namespace Go.Proofs.Ythmnfbnaeggknaa
open Go.RowKit
set_option linter.unusedVariables false

theorem in_and1 (v j : Nat) (hv : v ≤ 255) : (bits .and .i64 ((v : Int) / 2 ^ j) 1 == 1) = v.testBit j := by
  have e : ((v:Int) / 2 ^ j) = ((v / 2 ^ j : Nat) : Int) := by simp
  have hd : v / 2 ^ j ≤ 255 := Nat.le_trans (Nat.div_le_self _ _) hv
  rw [e, show (1:Int) = ((1:Nat):Int) from rfl, i64_and_nat _ _ (by omega) (by omega), Nat.and_one_is_mod, Nat.testBit_eq_decide_div_mod_eq]
  rw [Bool.eq_iff_iff]; simp; omega
theorem gosIn_any (v j : Nat) (w : World) (hv : v ≤ 255) (hj : j ≤ 62) : Calls Try.prog 46 #[.int .i64 v, .int .i64 j] w fun e w' => e = .returned (.bool (v.testBit j)) ∧ w = w' := by
  have hbit := in_and1 v j hv
  have HV := hide hv
  clear hv
  go_enter Try.func46, Try.ntmps46
  go_wp2_with fail
  go_ret
  exact ⟨rfl, rfl⟩

/-- the house: its labels are the caller's; each store has a block of its own -/
structure HouseAt (w : World) (base hb sb n c m mc : Nat) (A : Option Addr) (labs : List Nat) (G : List Nat) (SS : List (List EnR)) : Prop where
  lab : Reads w base 1 A n (labs.map fun v => Value.int .i64 ((v : Nat) : Int))
  ln : labs.length = n
  lb : ∀ v ∈ labs, v ≤ 255
  n8 : n ≤ 1000
  m8 : m ≤ 60
  gm : G.length = m
  sm : SS.length = m
  cap : m ≤ mc
  house : Blk w hb 56 #[.slice A n c, .slice (some ⟨sb, 0, none⟩) m mc]
  row : ∃ cs, Blk w sb 58 cs ∧ ∀ j g : Nat, G[j]? = some g → cs[j]? = some (.slice (some ⟨g, 0, none⟩) n n)
  st : ∀ j g : Nat, ∀ S : List EnR, G[j]? = some g → SS[j]? = some S → StoreAt w base g S ∧ S.length = n
  nd : G.Nodup
  low : base ≤ hb ∧ base ≤ sb
section
variable {w w' : World} {base hb sb n c m mc : Nat} {A : Option Addr} {labs : List Nat} {G : List Nat} {SS : List (List EnR)}
theorem HouseAt.calm (h : HouseAt w base hb sb n c m mc A labs G SS) (hw : Below w.heap.size w w') : HouseAt w' base hb sb n c m mc A labs G SS := by
  obtain ⟨cs, h1, h2⟩ := h.row
  exact ⟨h.lab.below (hw.mono (Nat.le_trans h.low.1 (Nat.le_of_lt h.house.lt))), h.ln, h.lb, h.n8, h.m8, h.gm, h.sm, h.cap, h.house.below hw h.house.lt, ⟨cs, h1.below hw h1.lt, h2⟩, fun j g S hg hS => ⟨(h.st j g S hg hS).1.calm hw, (h.st j g S hg hS).2⟩, h.nd, h.low⟩
/-- store j's rows set anew -/
theorem HouseAt.learn (h : HouseAt w base hb sb n c m mc A labs G SS) {j g : Nat} {S S' : List EnR} (hg : G[j]? = some g) (hS : SS[j]? = some S) (hs' : StoreAt w' base g S') (hl : S'.length = n) (ho : Only (fun k => k = g) w w') :
    HouseAt w' base hb sb n c m mc A labs G (SS.set j S') := by
  obtain ⟨cs, h1, h2⟩ := h.row
  have hst := (h.st j g S hg hS).1
  refine ⟨h.lab.only ho (Nat.le_trans h.low.1 (Nat.le_of_lt h.house.lt)) (fun k hk e => by have := hst.low; omega), h.ln, h.lb, h.n8, h.m8, h.gm, by simp [h.sm], h.cap, h.house.only ho (h.house.ne_ hst.blk (by decide)), ⟨cs, h1.only ho (h1.ne_ hst.blk (by decide)), h2⟩, ?_, h.nd, h.low⟩
  intro i gi Si hgi hSi
  by_cases hij : i = j
  · subst hij
    rw [List.getElem?_set_self (by rw [h.sm, ← h.gm]; exact (List.getElem?_eq_some_iff.1 hg).1)] at hSi
    cases hSi
    have : gi = g := by rw [hg] at hgi; cases hgi; rfl
    subst this
    exact ⟨hs', hl⟩
  · rw [List.getElem?_set_ne (fun e => hij e.symm)] at hSi
    have hi := h.st i gi Si hgi hSi
    have hne : gi ≠ g := fun e => by
      subst e
      have hlt := (List.getElem?_eq_some_iff.1 hgi).1
      exact hij ((List.getElem?_inj hlt h.nd).1 (by rw [hgi, hg]))
    exact ⟨hi.1.only ho hne (fun r hr k hk e => own_blk_ne (hi.1.rows r hr) hst.blk (by decide) (by rw [hk, e])), hi.2⟩
theorem HouseAt.c0 (h : HouseAt w base hb sb n c m mc A labs G SS) : w.cell? ⟨hb, 0, none⟩ = some (.slice A n c) := by rw [h.house.cell 0]; rfl
theorem HouseAt.c1 (h : HouseAt w base hb sb n c m mc A labs G SS) : w.cell? ⟨hb, 1, none⟩ = some (.slice (some ⟨sb, 0, none⟩) m mc) := by rw [h.house.cell 1]; rfl
theorem HouseAt.cs (h : HouseAt w base hb sb n c m mc A labs G SS) {j : Nat} (hj : j < m) : ∃ g S, G[j]? = some g ∧ SS[j]? = some S ∧ w.cell? ⟨sb, j, none⟩ = some (.slice (some ⟨g, 0, none⟩) n n) ∧ StoreAt w base g S ∧ S.length = n := by
  obtain ⟨cs, h1, h2⟩ := h.row
  have e1 : G[j]? = some (G[j]'(by rw [h.gm]; exact hj)) := List.getElem?_eq_getElem _
  have e2 : SS[j]? = some (SS[j]'(by rw [h.sm]; exact hj)) := List.getElem?_eq_getElem _
  refine ⟨_, _, e1, e2, ?_, h.st j _ _ e1 e2⟩
  rw [h1.cell]
  exact h2 j _ e1
end
set_option maxRecDepth 100000 in
theorem gosThere_any (base hb sb n c m mc : Nat) (A : Option Addr) (labs : List Nat) (G : List Nat) (SS : List (List EnR)) (w : World) (z : Int) (h : HouseAt w base hb sb n c m mc A labs G SS) :
    Calls Try.prog 44 #[.pointer (some ⟨hb, 0, none⟩), .int .i64 z] w fun e w' => e = .returned (.bool (decide (0 ≤ z) && decide (z < m))) ∧ w = w' := by
  have y1 := h.c1
  clear h
  go_enter Try.func44, Try.ntmps44
  by_cases h0 : 0 ≤ z
  · by_cases h1 : z < m
    · go_wp2_with fail
      go_ret
      exact ⟨by simp [h0, h1], rfl⟩
    · go_wp2_with fail
      go_ret
      exact ⟨by simp [h1], rfl⟩
  · go_wp2_with fail
    go_ret
    exact ⟨by have h3 : ¬ 0 ≤ z := by omega
              simp [h3], rfl⟩
end Go.Proofs.Ythmnfbnaeggknaa
