/- slices.BinarySearchFunc over entries in their order, by the key. Conditions: none beyond what each theorem states. -/
import Derived.Test.YthmnfbnaeggknaaRegD
import Derived.Test.YthmnfbnaeggknaaRegF
namespace Go.Proofs.Ythmnfbnaeggknaa
open Go.RowKit
set_option linter.unusedVariables false

def SortedE (L : List Ent) : Prop := L.Pairwise fun x y => x.key < y.key
def KeysOk (L : List Ent) : Prop := ∀ x ∈ L, 0 ≤ x.key ∧ x.key ≤ 1048576
/-- how many keys are below -/
def posE : List Ent → Int → Nat
  | [], _ => 0
  | x :: L, k => if x.key < k then posE L k + 1 else 0
theorem posE_le (L : List Ent) (k : Int) : posE L k ≤ L.length := by
  induction L with
  | nil => simp [posE]
  | cons x L ih => unfold posE; split <;> simp <;> omega
theorem posE_lt (L : List Ent) (k : Int) (h : SortedE L) : ∀ (p : Nat) (x : Ent), L[p]? = some x → (x.key < k ↔ p < posE L k) := by
  induction L with
  | nil => intro p x hx; simp at hx
  | cons y L ih =>
    intro p x hx
    have hs := List.pairwise_cons.1 h
    unfold posE
    cases p with
    | zero =>
      simp at hx
      subst hx
      split <;> simp [*]
    | succ p =>
      simp at hx
      have h1 := ih hs.2 p x hx
      have h2 := hs.1 x (List.mem_of_getElem? hx)
      split
      · omega
      · constructor
        · intro h3; omega
        · intro h3; omega
theorem mergeClo_any (e : Ent) (k : Int) (w : World) (h1 : 0 ≤ e.key ∧ e.key ≤ 1048576) (h2 : 0 ≤ k ∧ k ≤ 1048576) : Calls Try.prog 29 #[.agg #[.int .i64 e.key, .int .i64 e.value, .int .i64 e.time, .int .i64 e.who, .bool e.gone], .int .i64 k] w fun x w' => x = .returned (.int .i64 (e.key - k)) ∧ Below w.heap.size w w' := by
  go_enter Try.func29, Try.ntmps29
  go_wp2_with fail
  go_ret
  exact ⟨rfl, (Below.refl _ _).alloc (Nat.le_refl _) _⟩
theorem mergeClo_enters (args : Array Value) (W : World) : (callFunc 29 args).run Try.prog W = .ok (.enter 29 args) W :=
  callFunc_enters Try.func29 (by kernel_rfl) rfl args W
def hadE (L : List Ent) (k : Int) : Bool := match L[posE L k]? with | some x => decide (x.key = k) | none => false

set_option maxHeartbeats 1000000 in
theorem entSearch_any (A : Option Addr) (n c : Nat) (l : List Ent) (k : Int) (B : Nat) (w : World) (hl : l.length = n) (hm : n * 40 ≤ 140737488351232) (hr : Reads w B 5 A n (l.flatMap entCells)) (hB : B ≤ w.heap.size) (hs : SortedE l) (hk : KeysOk l) (h2 : 0 ≤ k ∧ k ≤ 1048576) :
    Calls Try.prog 28 #[.slice A n c, .int .i64 k, .func (.func 29) #[] #[]] w fun e w' => e = .returned (.tuple #[.int .i64 (posE l k), .bool (hadE l k)]) ∧ Below w.heap.size w w' := by
  have HR := hide (hr.more hB)
  have HL := hide hl
  have HS := hide hs
  have HK := hide hk
  have hrun := mergeClo_enters
  have HPL := hide (show posE l k ≤ n by rw [← hl]; exact posE_le l k)
  clear hr hl hs hk
  go_enter Try.func28, Try.ntmps28
  go_wp2_with fail
  go_loopw [9, 10] (fun x y wr => ∃ i j : Nat, i ≤ posE l k ∧ posE l k ≤ j ∧ j ≤ n ∧ x = .int .i64 i ∧ y = .int .i64 j ∧ Below w.heap.size w wr) (fun x y _ => (intOf y - intOf x).toNat)
  case atStart => exact ⟨0, n, Nat.zero_le _, unhide HPL, Nat.le_refl _, rfl, rfl, Below.refl _ _⟩
  case round =>
    obtain ⟨i, j, hi, hj, hjn, rfl, rfl, hb⟩ := hrel
    by_cases hlt : i < j
    · obtain ⟨h, hh⟩ : ∃ h, h = (i + j) / 2 := ⟨_, rfl⟩
      have hhn : h < n := by omega
      have hmid : IntKind.u64.wrap ((i : Int) + (j : Int)) = (i : Int) + (j : Int) := by simp [IntKind.wrap, IntKind.bits, IntKind.signed]; omega
      have E2 := hide (show ((h : Nat) : Int) = ((i : Int) + (j : Int)) / 2 by omega)
      obtain ⟨b, o, e, rfl, hbl, he, hc⟩ := at_row entCells_len (by omega) ((unhide HR).below hb) hhn (unhide HL)
      have c0 : wr.cell? ⟨b, o + h * 5, none⟩ = some (.int .i64 e.key) := hc 0 _ rfl
      have c1 : wr.cell? ⟨b, o + h * 5 + 1, none⟩ = some (.int .i64 e.value) := hc 1 _ rfl
      have c2 : wr.cell? ⟨b, o + h * 5 + 2, none⟩ = some (.int .i64 e.time) := hc 2 _ rfl
      have c3 : wr.cell? ⟨b, o + h * 5 + 3, none⟩ = some (.int .i64 e.who) := hc 3 _ rfl
      have c4 : wr.cell? ⟨b, o + h * 5 + 4, none⟩ = some (.bool e.gone) := hc 4 _ rfl
      have hek := unhide HK e (List.mem_of_getElem? he)
      have hpos := posE_lt l k (unhide HS) h e he
      have HCL := hide (fun W => mergeClo_any e k W hek h2)
      have hhn' : (h : Int) < (n : Int) := by omega
      have HB := hide hb
      have HH := hide hh
      clear hc he hbl hb hh
      go_upto_region 5 with fail
      rw [← unhide E2]
      by_cases hc : e.key < k
      · have hp := hpos.1 hc
        have hc' : e.key - k < 0 := by omega
        clear hpos
        go_wp2_with fail
        refine (unhide HCL _).mono ?_
        rintro _ w2 ⟨rfl, hb2⟩
        have HB2 := hide ((unhide HB).trans (hb2.mono (unhide HB).size))
        clear hb2
        go_wp2_with fail
        go_roundw
        case rel => exact ⟨h + 1, j, by omega, hj, hjn, by go_num, rfl, unhide HB2⟩
        case measure => have := unhide HH; simp [intOf]; omega
      · have hp : ¬ h < posE l k := fun e => hc (hpos.2 e)
        have hc' : ¬ e.key - k < 0 := by omega
        clear hpos
        go_wp2_with fail
        refine (unhide HCL _).mono ?_
        rintro _ w2 ⟨rfl, hb2⟩
        have HB2 := hide ((unhide HB).trans (hb2.mono (unhide HB).size))
        clear hb2
        go_wp2_with fail
        go_roundw
        case rel => exact ⟨i, h, hi, by omega, by omega, rfl, rfl, unhide HB2⟩
        case measure => have := unhide HH; simp [intOf]; omega
    · obtain rfl : i = j := by omega
      obtain hq : posE l k = i := by omega
      have HQ := hide hq
      rw [hq]
      clear hi hj hq
      by_cases hin : i < n
      · obtain ⟨b, o, e, rfl, hbl, he, hc⟩ := at_row entCells_len (by omega) ((unhide HR).below hb) hin (unhide HL)
        have c0 : wr.cell? ⟨b, o + i * 5, none⟩ = some (.int .i64 e.key) := hc 0 _ rfl
        have c1 : wr.cell? ⟨b, o + i * 5 + 1, none⟩ = some (.int .i64 e.value) := hc 1 _ rfl
        have c2 : wr.cell? ⟨b, o + i * 5 + 2, none⟩ = some (.int .i64 e.time) := hc 2 _ rfl
        have c3 : wr.cell? ⟨b, o + i * 5 + 3, none⟩ = some (.int .i64 e.who) := hc 3 _ rfl
        have c4 : wr.cell? ⟨b, o + i * 5 + 4, none⟩ = some (.bool e.gone) := hc 4 _ rfl
        have hek := unhide HK e (List.mem_of_getElem? he)
        have HCL := hide (fun W => mergeClo_any e k W hek h2)
        have HF := hide (show hadE l k = (e.key - k == 0) by unfold hadE; rw [unhide HQ, he]; dsimp only; rw [Bool.eq_iff_iff]; simp; omega)
        have hin' : (i : Int) < (n : Int) := by omega
        have HB := hide hb
        clear hc he hbl hb
        go_wp2_with fail
        refine (unhide HCL _).mono ?_
        rintro _ w2 ⟨rfl, hb2⟩
        have HB2 := hide ((unhide HB).trans (hb2.mono (unhide HB).size))
        clear hb2
        go_wp2_with fail
        go_ret2
        rw [unhide HF, unhide HQ]
        exact ⟨rfl, unhide HB2⟩
      · have HF := hide (show hadE l k = false by unfold hadE; rw [unhide HQ, List.getElem?_eq_none (by rw [unhide HL]; omega)])
        have hin' : decide (i < n) = false := decide_eq_false hin
        have HB := hide hb
        clear hb
        go_wp2_with fail
        go_ret2
        rw [unhide HF, unhide HQ]
        exact ⟨rfl, unhide HB⟩
end Go.Proofs.Ythmnfbnaeggknaa
