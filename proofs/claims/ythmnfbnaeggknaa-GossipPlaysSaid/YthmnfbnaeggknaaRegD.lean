/- Contracts of reg.Newer, of what it calls, and of the reference's EntryNewer. Conditions: none beyond what each theorem states. -/
import Derived.Test.YthmnfbnaeggknaaRegA
import Derived.Test.YthmnfbnaeggknaaCalm
import Derived.StillTailTactics
namespace Go.Proofs.Ythmnfbnaeggknaa
open Go.RowKit
set_option linter.unusedVariables false

def cmpP (a b : Int) : Int := if a < b then -1 else if b < a then 1 else 0
def flagP (b : Bool) : Int := if b then 1 else 0
def orP : List Int → Int
  | [] => 0
  | z :: l => if z ≠ 0 then z else orP l
def newerL (a b : Ent) : List Int := [cmpP a.time b.time, cmpP a.who b.who, cmpP (flagP b.gone) (flagP a.gone), cmpP a.value b.value]
def newerP (a b : Ent) : Bool := decide (0 < orP (newerL a b))

theorem isNaN_any (x : Int) (w : World) : Calls Try.prog 39 #[.int .i64 x] w fun e w' => e = .returned (.bool false) ∧ w' = w := by
  go_enter Try.func39, Try.ntmps39
  go_wp2
  go_ret
  exact ⟨by simp, rfl⟩
theorem cmpCompare_any (x y : Int) (w : World) : Calls Try.prog 23 #[.int .i64 x, .int .i64 y] w fun e w' => e = .returned (.int .i64 (cmpP x y)) ∧ w' = w := by
  have H := hide (fun z => isNaN_any z w)
  by_cases h1 : x < y
  · have HF := hide (show cmpP x y = -1 by simp [cmpP, h1])
    go_enter Try.func23, Try.ntmps23
    go_wp2_with fail
    refine (unhide H _).mono ?_
    rintro _ _ ⟨rfl, rfl⟩
    go_wp2_with fail
    refine (unhide H _).mono ?_
    rintro _ _ ⟨rfl, rfl⟩
    go_wp2_with fail
    go_ret
    exact ⟨ret_int (unhide HF).symm, rfl⟩
  · by_cases h2 : y < x
    · have HF := hide (show cmpP x y = 1 by simp [cmpP, h1, h2])
      go_enter Try.func23, Try.ntmps23
      go_wp2_with fail
      refine (unhide H _).mono ?_
      rintro _ _ ⟨rfl, rfl⟩
      go_wp2_with fail
      refine (unhide H _).mono ?_
      rintro _ _ ⟨rfl, rfl⟩
      go_wp2_with fail
      go_ret
      exact ⟨ret_int (unhide HF).symm, rfl⟩
    · have HF := hide (show cmpP x y = 0 by simp [cmpP, h1, h2])
      go_enter Try.func23, Try.ntmps23
      go_wp2_with fail
      refine (unhide H _).mono ?_
      rintro _ _ ⟨rfl, rfl⟩
      go_wp2_with fail
      refine (unhide H _).mono ?_
      rintro _ _ ⟨rfl, rfl⟩
      go_wp2_with fail
      go_ret
      exact ⟨ret_int (unhide HF).symm, rfl⟩
theorem flag_any (b : Bool) (w : World) : Calls Try.prog 24 #[.bool b] w fun e w' => e = .returned (.int .i64 (flagP b)) ∧ w' = w := by
  cases b
  · go_enter Try.func24, Try.ntmps24
    go_wp2
    go_ret
    exact ⟨rfl, rfl⟩
  · go_enter Try.func24, Try.ntmps24
    go_wp2
    go_ret
    exact ⟨rfl, rfl⟩
theorem cmpOr_any (A : Option Addr) (n c : Nat) (zs : List Int) (B : Nat) (w : World) (hl : zs.length = n) (hm : n ≤ maxLen) (hr : Reads w B 1 A n (zs.map (.int .i64))) :
    Calls Try.prog 22 #[.slice A n c] w fun e w' => e = .returned (.int .i64 (orP zs)) ∧ w' = w := by
  have HR := hide hr
  have HL := hide hl
  unfold maxLen at hm
  clear hr hl
  go_enter Try.func22, Try.ntmps22
  go_wp2_with fail
  go_loop [8] (fun i => ∃ (k : Nat), k ≤ n ∧ i = .int .i64 k ∧ Hid (orP (zs.drop k) = orP zs)) (fun i => n - (intOf i).toNat)
  case atStart => exact ⟨0, Nat.zero_le _, rfl, rfl⟩
  case round =>
    obtain ⟨k, hk, rfl, HI⟩ := hrel
    by_cases hlt : k < n
    · obtain ⟨b, o, z, rfl, _, hz, hc⟩ := at_num (unhide HR) hlt
      have HI2 := hide (by have h := unhide HI; rw [drop_cons zs k z hz, orP] at h; exact h)
      clear HI hz
      by_cases hz0 : z = 0
      · have HI3 := hide (by have h := unhide HI2; rw [if_neg (by simpa using hz0)] at h; exact h)
        clear HI2
        subst hz0
        go_wp2_with fail
        go_round
        case rel => exact ⟨k + 1, by omega, by go_num, unhide HI3⟩
        case measure => simp [intOf]; omega
      · have HI3 := hide (by have h := unhide HI2; rw [if_pos hz0] at h; exact h)
        clear HI2
        go_wp2_with fail
        go_ret
        exact ⟨ret_int (unhide HI3), rfl⟩
    · obtain rfl : k = n := by omega
      have HF := hide (show orP zs = 0 by
        have h := unhide HI
        rw [List.drop_of_length_le (by rw [unhide HL]; exact Nat.le_refl _)] at h
        exact h.symm)
      clear HI
      go_wp2_with fail
      go_ret
      exact ⟨ret_int (unhide HF).symm, rfl⟩

set_option maxHeartbeats 1600000 in
theorem regNewer_any (a b : Ent) (w : World) : Calls Try.prog 10 #[entV a, entV b] w fun e w' => e = .returned (.bool (newerP a b)) ∧ Below w.heap.size w w' := by
  obtain ⟨k, v, t, o, g⟩ := a
  obtain ⟨k', v', t', o', g'⟩ := b
  have HC := hide cmpCompare_any
  have HF := hide flag_any
  have HO := hide cmpOr_any
  unfold entV
  go_enter Try.func10, Try.ntmps10
  go_wp2_with fail
  have hb := ((Below.refl w.heap.size w).alloc (Nat.le_refl _) (.cells #[.int .i64 k, .int .i64 v, .int .i64 t, .int .i64 o, .bool g] 25)).alloc (by simp) (.cells #[.int .i64 k', .int .i64 v', .int .i64 t', .int .i64 o', .bool g'] 25)
  have ha := (Blk.new w 25 #[.int .i64 k, .int .i64 v, .int .i64 t, .int .i64 o, .bool g]).alloc (.cells #[.int .i64 k', .int .i64 v', .int .i64 t', .int .i64 o', .bool g'] 25)
  have hc := Blk.new (w.alloc (.cells #[.int .i64 k, .int .i64 v, .int .i64 t, .int .i64 o, .bool g] 25)) 25 #[.int .i64 k', .int .i64 v', .int .i64 t', .int .i64 o', .bool g']
  refine wp_region_still_tail 22 (by kernel_rfl) (by kernel_rfl) ?_
  simp only [List.take_succ_cons, List.take_zero, List.drop_succ_cons, List.drop_zero]
  change wpStill _ _ (((w.alloc (.cells #[.int .i64 k, .int .i64 v, .int .i64 t, .int .i64 o, .bool g] 25)).alloc (.cells #[.int .i64 k', .int .i64 v', .int .i64 t', .int .i64 o', .bool g'] 25)).drew) (fun a' => wpList _ _ _ _ a' (((w.alloc (.cells #[.int .i64 k, .int .i64 v, .int .i64 t, .int .i64 o, .bool g] 25)).alloc (.cells #[.int .i64 k', .int .i64 v', .int .i64 t', .int .i64 o', .bool g'] 25)).drew)) _ _
  replace hb := hb.drew
  replace ha := ha.drew
  replace hc := hc.drew
  generalize ((w.alloc (.cells #[.int .i64 k, .int .i64 v, .int .i64 t, .int .i64 o, .bool g] 25)).alloc (.cells #[.int .i64 k', .int .i64 v', .int .i64 t', .int .i64 o', .bool g'] 25)).drew = w3 at *
  have hs : (w.alloc (.cells #[.int .i64 k, .int .i64 v, .int .i64 t, .int .i64 o, .bool g] 25)).heap.size = w.heap.size + 1 := by simp
  rw [hs] at hc
  have a1 : w3.cell? ⟨w.heap.size, 1, none⟩ = some (.int .i64 v) := ha.cell 1
  have a2 : w3.cell? ⟨w.heap.size, 2, none⟩ = some (.int .i64 t) := ha.cell 2
  have a3 : w3.cell? ⟨w.heap.size, 3, none⟩ = some (.int .i64 o) := ha.cell 3
  have a4 : w3.cell? ⟨w.heap.size, 4, none⟩ = some (.bool g) := ha.cell 4
  have b1 : w3.cell? ⟨w.heap.size + 1, 1, none⟩ = some (.int .i64 v') := hc.cell 1
  have b2 : w3.cell? ⟨w.heap.size + 1, 2, none⟩ = some (.int .i64 t') := hc.cell 2
  have b3 : w3.cell? ⟨w.heap.size + 1, 3, none⟩ = some (.int .i64 o') := hc.cell 3
  have b4 : w3.cell? ⟨w.heap.size + 1, 4, none⟩ = some (.bool g') := hc.cell 4
  have HB := hide hb
  clear ha hc hs hb
  repeat (first | still_step | still_call (unhide HC _ _ _) | still_call (unhide HF _ _))
  refine wpStill_nil ?_
  go_wp2_with fail
  have hrr := reads_of_blk (cs := (newerL ⟨k, v, t, o, g⟩ ⟨k', v', t', o', g'⟩).map (.int .i64)) (Blk.new w3 3 _) (Nat.lt_succ_self _)
  refine (unhide HO _ 4 4 (newerL ⟨k, v, t, o, g⟩ ⟨k', v', t', o', g'⟩) _ _ rfl (by unfold maxLen; omega) hrr).mono ?_
  rintro _ _ ⟨rfl, rfl⟩
  go_wp2_with fail
  go_ret
  exact ⟨rfl, (unhide HB).alloc (unhide HB).size _⟩

theorem newerP_eq (a b : Ent) : newerP a b = if a.time ≠ b.time then decide (b.time < a.time) else if a.who ≠ b.who then decide (b.who < a.who) else if a.gone ≠ b.gone then b.gone else decide (b.value < a.value) := by
  obtain ⟨k, v, t, o, g⟩ := a
  obtain ⟨k', v', t', o', g'⟩ := b
  have hc : ∀ x y : Int, (cmpP x y ≠ 0 ↔ x ≠ y) ∧ (0 < cmpP x y ↔ y < x) := by
    intro x y
    unfold cmpP
    constructor
    · split
      · simp; omega
      · split <;> simp <;> omega
    · split
      · simp; omega
      · split <;> simp <;> omega
  unfold newerP newerL orP
  dsimp only
  by_cases ht : t ≠ t'
  · rw [if_pos ht, if_pos ((hc t t').1.2 ht)]
    exact decide_eq_decide.2 (hc t t').2
  · rw [if_neg ht, if_neg (fun h => ht ((hc t t').1.1 h))]
    unfold orP
    by_cases ho : o ≠ o'
    · rw [if_pos ho, if_pos ((hc o o').1.2 ho)]
      exact decide_eq_decide.2 (hc o o').2
    · rw [if_neg ho, if_neg (fun h => ho ((hc o o').1.1 h))]
      unfold orP
      by_cases hg : g ≠ g'
      · rw [if_pos hg]
        cases g <;> cases g' <;> simp [flagP, cmpP] at hg ⊢
      · rw [if_neg hg]
        have : g = g' := by simpa using hg
        subst this
        have e : cmpP (flagP g) (flagP g) = 0 := by cases g <;> rfl
        rw [e, if_neg (by simp)]
        unfold orP
        by_cases hv : v ≠ v'
        · rw [if_pos ((hc v v').1.2 hv)]
          exact decide_eq_decide.2 (hc v v').2
        · have : v = v' := by omega
          subst this
          rw [if_neg (fun h => hv ((hc v v).1.1 h))]
          simp [orP]

set_option maxHeartbeats 800000 in
theorem entryNewer_any (a b : Ent) (w : World) : Calls Try.prog 11 #[entV a, entV b] w fun e w' => e = .returned (.bool (newerP a b)) ∧ Below w.heap.size w w' := by
  have HE := hide (newerP_eq a b)
  obtain ⟨k, v, t, o, g⟩ := a
  obtain ⟨k', v', t', o', g'⟩ := b
  have HB := hide (((Below.refl w.heap.size w).alloc (Nat.le_refl _) (.cells #[.int .i64 k, .int .i64 v, .int .i64 t, .int .i64 o, .bool g] 25)).alloc (by simp) (.cells #[.int .i64 k', .int .i64 v', .int .i64 t', .int .i64 o', .bool g'] 25))
  unfold entV
  by_cases ht : t = t'
  · subst ht
    by_cases ho : o = o'
    · subst ho
      cases g with
      | true => cases g' with
        | true =>
          go_enter Try.func11, Try.ntmps11
          go_wp2_with fail
          go_ret
          exact ⟨ret_bool (by rw [unhide HE]; simp), unhide HB⟩
        | false =>
          go_enter Try.func11, Try.ntmps11
          go_wp2_with fail
          go_ret
          exact ⟨ret_bool (by rw [unhide HE]; simp), unhide HB⟩
      | false => cases g' with
        | true =>
          go_enter Try.func11, Try.ntmps11
          go_wp2_with fail
          go_ret
          exact ⟨ret_bool (by rw [unhide HE]; simp), unhide HB⟩
        | false =>
          go_enter Try.func11, Try.ntmps11
          go_wp2_with fail
          go_ret
          exact ⟨ret_bool (by rw [unhide HE]; simp), unhide HB⟩
    · go_enter Try.func11, Try.ntmps11
      go_wp2_with fail
      go_ret
      exact ⟨ret_bool (by rw [unhide HE]; simp [ho]), unhide HB⟩
  · go_enter Try.func11, Try.ntmps11
    go_wp2_with fail
    go_ret
    exact ⟨ret_bool (by rw [unhide HE]; simp [ht]), unhide HB⟩

theorem walk_RegNewers (a b : Ent) (w : World) : Calls Try.prog 4 #[entV a, entV b] w fun e w' => e = .returned (.bool true) ∧ Below w.heap.size w w' := by
  have H1 := hide (fun W => regNewer_any a b W)
  have H2 := hide (fun W => entryNewer_any a b W)
  obtain ⟨k, v, t, o, g⟩ := a
  obtain ⟨k', v', t', o', g'⟩ := b
  have hb := ((Below.refl w.heap.size w).alloc (Nat.le_refl _) (.cells #[.int .i64 k, .int .i64 v, .int .i64 t, .int .i64 o, .bool g] 25)).alloc (by simp) (.cells #[.int .i64 k', .int .i64 v', .int .i64 t', .int .i64 o', .bool g'] 25)
  have ha := (Blk.new w 25 #[.int .i64 k, .int .i64 v, .int .i64 t, .int .i64 o, .bool g]).alloc (.cells #[.int .i64 k', .int .i64 v', .int .i64 t', .int .i64 o', .bool g'] 25)
  have hc := Blk.new (w.alloc (.cells #[.int .i64 k, .int .i64 v, .int .i64 t, .int .i64 o, .bool g] 25)) 25 #[.int .i64 k', .int .i64 v', .int .i64 t', .int .i64 o', .bool g']
  unfold entV
  go_enter Try.func4, Try.ntmps4
  go_wp2_with fail
  generalize (w.alloc (.cells #[.int .i64 k, .int .i64 v, .int .i64 t, .int .i64 o, .bool g] 25)).alloc (.cells #[.int .i64 k', .int .i64 v', .int .i64 t', .int .i64 o', .bool g'] 25) = w3 at *
  have hs : (w.alloc (.cells #[.int .i64 k, .int .i64 v, .int .i64 t, .int .i64 o, .bool g] 25)).heap.size = w.heap.size + 1 := by simp
  rw [hs] at hc
  have a0 : ∀ n : Ext w3, n.W.cell? ⟨w.heap.size, 0, none⟩ = some (.int .i64 k) := fun n => n.cell (ha.cell 0)
  have a1 : ∀ n : Ext w3, n.W.cell? ⟨w.heap.size, 1, none⟩ = some (.int .i64 v) := fun n => n.cell (ha.cell 1)
  have a2 : ∀ n : Ext w3, n.W.cell? ⟨w.heap.size, 2, none⟩ = some (.int .i64 t) := fun n => n.cell (ha.cell 2)
  have a3 : ∀ n : Ext w3, n.W.cell? ⟨w.heap.size, 3, none⟩ = some (.int .i64 o) := fun n => n.cell (ha.cell 3)
  have a4 : ∀ n : Ext w3, n.W.cell? ⟨w.heap.size, 4, none⟩ = some (.bool g) := fun n => n.cell (ha.cell 4)
  have b0 : ∀ n : Ext w3, n.W.cell? ⟨w.heap.size + 1, 0, none⟩ = some (.int .i64 k') := fun n => n.cell (hc.cell 0)
  have b1 : ∀ n : Ext w3, n.W.cell? ⟨w.heap.size + 1, 1, none⟩ = some (.int .i64 v') := fun n => n.cell (hc.cell 1)
  have b2 : ∀ n : Ext w3, n.W.cell? ⟨w.heap.size + 1, 2, none⟩ = some (.int .i64 t') := fun n => n.cell (hc.cell 2)
  have b3 : ∀ n : Ext w3, n.W.cell? ⟨w.heap.size + 1, 3, none⟩ = some (.int .i64 o') := fun n => n.cell (hc.cell 3)
  have b4 : ∀ n : Ext w3, n.W.cell? ⟨w.heap.size + 1, 4, none⟩ = some (.bool g') := fun n => n.cell (hc.cell 4)
  have HB := hide hb
  clear ha hc hs hb
  refine wp_region_calm (by kernel_rfl) (by kernel_rfl) ?_
  repeat (go_big_quiet_step (first | (go_at_call 10; exact calm_call (unhide H1 _)) | (go_at_call 11; exact calm_call (unhide H2 _))))
  refine wpQuiet_nil ?_
  rintro _ ⟨nq, rfl⟩
  go_wp2_with fail
  go_ret
  exact ⟨by simp, (unhide HB).trans (nq.h.mono (unhide HB).size)⟩
end Go.Proofs.Ythmnfbnaeggknaa
