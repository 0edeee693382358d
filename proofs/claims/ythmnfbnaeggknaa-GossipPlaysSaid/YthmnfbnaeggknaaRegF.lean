/- Contracts of slices.Clone, IndexFunc, DeleteFunc over entries. Conditions: none beyond what each theorem states. -/
import Derived.Test.YthmnfbnaeggknaaRegB
import Derived.Lib.SliceRun
namespace Go.Proofs.Ythmnfbnaeggknaa
open Go.RowKit
set_option linter.unusedVariables false

theorem info_ent : (Try.prog.info? 25).map (fun i => (i.zero, i.size, i.bytes)) = some (some (.agg #[.int .i64 0, .int .i64 0, .int .i64 0, .int .i64 0, .bool false]), 5, 40) := by kernel_rfl
theorem ent_info : ∃ i, Try.prog.info? 25 = some i ∧ i.zero = some (.agg #[.int .i64 0, .int .i64 0, .int .i64 0, .int .i64 0, .bool false]) ∧ i.size = 5 ∧ i.bytes = 40 := by
  have h := info_ent
  cases hi : Try.prog.info? 25 with
  | none => rw [hi] at h; simp at h
  | some i => rw [hi] at h; simp at h; exact ⟨i, rfl, h.1, h.2.1, h.2.2⟩
theorem entCells_one (l : List Ent) : ∀ u ∈ l.flatMap entCells, u.oneCell' = true := by
  intro u hu
  obtain ⟨e, _, he⟩ := List.mem_flatMap.1 hu
  simp only [entCells, List.mem_cons, List.not_mem_nil, or_false] at he
  rcases he with rfl | rfl | rfl | rfl | rfl <;> rfl

theorem entClone_any (A : Option Addr) (n c : Nat) (l : List Ent) (B : Nat) (w : World) (hl : l.length = n) (hm : n * 40 ≤ 140737488351232) (hr : Reads w B 5 A n (l.flatMap entCells)) (hB : B ≤ w.heap.size) :
    Calls Try.prog 26 #[.slice A n c] w fun e w' => ∃ v, e = .returned v ∧ w'.ownsRow w.heap.size 25 5 v n (l.flatMap entCells) ∧ Below w.heap.size w w' := by
  obtain ⟨i0, hi, hz0, hz1, hz2⟩ := ent_info
  have q22 : ∀ (w : World) (a : Option Addr) (n c n' c' : Nat), (binOp .eql 22 (.slice a n c) (.slice none n' c')).run Try.prog w = .ok (.bool a.isNone) w := fun w a n c n' c' => Lib.run_eql_slice_nil w _ _ a n c n' c' Try.underlying22
  have HR := hide (hr.more hB)
  have HL := hide hl
  clear hr hl
  cases A with
  | none =>
    obtain rfl : n = 0 := by
      rcases Nat.eq_zero_or_pos n with h | h
      · exact h
      · obtain ⟨a, ha, _⟩ := (unhide HR).2 h; cases ha
    obtain rfl : l = [] := List.eq_nil_of_length_eq_zero (unhide HL)
    go_enter Try.func26, Try.ntmps26
    go_wp2_with fail
    go_ret
    exact ⟨_, rfl, World.ownsRow_nil _ _ _ _, Below.refl _ _⟩
  | some a =>
    have hlit := World.ownsRow_lit (base := w.heap.size) (size := 5) (e := 25) w #[] 0 (Nat.le_refl _) (by unfold maxLen; omega) rfl
    have HLIT := hide hlit
    have HR1 := hide ((unhide HR).alloc (Nat.le_refl _) (.cells #[] 25))
    have h1 : 0 + n ≤ maxLen := by unfold maxLen; omega
    have h2 : (0 + n) * 40 ≤ 140737488355328 := by omega
    have hone := entCells_one l
    have HONE := hide hone
    clear hlit hone hB hm
    go_enter Try.func26, Try.ntmps26
    go_wp2_with (first
      | (at_builtin; (refine wpList_append_any _ rfl (.tmp 5) (.tmp 6) _ rfl w.heap.size 25 i0 _ 5 40 Try.underlying22 hi hz0 hz1 hz2 rfl (by omega) _ 0 _ rfl (unhide HLIT) w.heap.size (some a) n c (l.flatMap entCells) rfl (unhide HR1) (unhide HONE) h1 h2 (by simp) ?_); intro v w1 hown hg hv))
    go_ret
    exact ⟨v, rfl, by simpa using hown, ((Below.refl _ w).alloc (Nat.le_refl _) _).grown hg (by simp) fun k hk => ((unhide HLIT).lt k hk).1⟩

def idxP (f : Ent → Bool) : List Ent → Nat → Int
  | [], _ => -1
  | e :: l, k => if f e then k else idxP f l (k + 1)

theorem liveClo_any (e : Ent) (w : World) : Calls Try.prog 27 #[.agg #[.int .i64 e.key, .int .i64 e.value, .int .i64 e.time, .int .i64 e.who, .bool e.gone]] w fun x w' => x = .returned (.bool e.gone) ∧ Below w.heap.size w w' := by
  go_enter Try.func27, Try.ntmps27
  go_wp2_with fail
  go_ret
  exact ⟨rfl, (Below.refl _ _).alloc (Nat.le_refl _) _⟩
theorem liveClo_enters (args : Array Value) (W : World) : (callFunc 27 args).run Try.prog W = .ok (.enter 27 args) W :=
  callFunc_enters Try.func27 (by kernel_rfl) rfl args W

theorem entIndex_any (fn : FuncId) (f : Ent → Bool) (A : Option Addr) (n c : Nat) (l : List Ent) (B : Nat) (w : World) (hl : l.length = n) (hm : n * 40 ≤ 140737488351232) (hr : Reads w B 5 A n (l.flatMap entCells)) (hB : B ≤ w.heap.size)
    (hrun : ∀ args W, (callFunc fn args).run Try.prog W = .ok (.enter fn args) W)
    (h : ∀ (e : Ent) W, Calls Try.prog fn #[.agg #[.int .i64 e.key, .int .i64 e.value, .int .i64 e.time, .int .i64 e.who, .bool e.gone]] W fun x w' => x = .returned (.bool (f e)) ∧ Below W.heap.size W w') :
    Calls Try.prog 40 #[.slice A n c, .func (.func fn) #[] #[]] w fun e w' => e = .returned (.int .i64 (idxP f l 0)) ∧ Below w.heap.size w w' := by
  have HR := hide (hr.more hB)
  have HL := hide hl
  have H := hide h
  clear hr hl h
  go_enter Try.func40, Try.ntmps40
  go_wp2_with fail
  go_loopw [8] (fun i wr => ∃ (k : Nat), k ≤ n ∧ i = .int .i64 k ∧ Below w.heap.size w wr ∧ Hid (idxP f (l.drop k) k = idxP f l 0)) (fun i _ => n - (intOf i).toNat)
  case atStart => exact ⟨0, Nat.zero_le _, rfl, Below.refl _ _, rfl⟩
  case round =>
    obtain ⟨k, hk, rfl, hb, HI⟩ := hrel
    by_cases hlt : k < n
    · obtain ⟨b, o, e, rfl, hbl, he, hc⟩ := at_row entCells_len (by omega) ((unhide HR).below hb) hlt (unhide HL)
      have c0 : wr.cell? ⟨b, o + k * 5, none⟩ = some (.int .i64 e.key) := hc 0 _ rfl
      have c1 : wr.cell? ⟨b, o + k * 5 + 1, none⟩ = some (.int .i64 e.value) := hc 1 _ rfl
      have c2 : wr.cell? ⟨b, o + k * 5 + 2, none⟩ = some (.int .i64 e.time) := hc 2 _ rfl
      have c3 : wr.cell? ⟨b, o + k * 5 + 3, none⟩ = some (.int .i64 e.who) := hc 3 _ rfl
      have c4 : wr.cell? ⟨b, o + k * 5 + 4, none⟩ = some (.bool e.gone) := hc 4 _ rfl
      have HI2 := hide (by have h := unhide HI; rw [drop_cons l k e he, idxP] at h; exact h)
      have HBB := hide hb
      clear HI hc he hb
      cases hf : f e with
      | true =>
        have HI3 := hide (by have h := unhide HI2; rw [if_pos hf] at h; exact h)
        have H2 := hide (unhide H e)
        rw [hf] at H2
        clear HI2
        go_wp2_with fail
        refine (unhide H2 _).mono ?_
        rintro _ w2 ⟨rfl, hb2⟩
        have HB2 := hide ((unhide HBB).trans (hb2.mono (unhide HBB).size))
        clear hb2
        go_wp2_with fail
        go_ret
        exact ⟨ret_int (unhide HI3), unhide HB2⟩
      | false =>
        have HI3 := hide (by have h := unhide HI2; rw [if_neg (by rw [hf]; simp)] at h; exact h)
        have H2 := hide (unhide H e)
        rw [hf] at H2
        clear HI2
        go_wp2_with fail
        refine (unhide H2 _).mono ?_
        rintro _ w2 ⟨rfl, hb2⟩
        have HB2 := hide ((unhide HBB).trans (hb2.mono (unhide HBB).size))
        clear hb2
        go_wp2_with fail
        go_roundw
        case rel => exact ⟨k + 1, by omega, by go_num, unhide HB2, unhide HI3⟩
        case measure => simp [intOf]; omega
    · obtain rfl : k = n := by omega
      have HF := hide (show idxP f l 0 = -1 by
        have h := unhide HI
        rw [List.drop_of_length_le (by rw [unhide HL]; exact Nat.le_refl _)] at h
        exact h.symm)
      have HBB := hide hb
      clear HI hb
      go_wp2_with fail
      go_ret
      exact ⟨ret_int (unhide HF).symm, unhide HBB⟩
end Go.Proofs.Ythmnfbnaeggknaa
