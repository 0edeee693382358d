/- Rows of numbers of the call's own that are stored into; a contract of sameInts. Conditions: none beyond what each theorem states. -/
import Derived.Test.YtcmkcgegdclllaaDoorProg
import Derived.Test.YtcmkcgegdclllaaDoorKit
import Derived.Test.YtcmkcgegdclllaaDoorMem
import Derived.Deep.Onto
namespace Go.Proofs.YtcmkcgegdclllaaDoor
open Go.RowKit
set_option linter.unusedVariables false

theorem info_i64 : (Tryd.prog.info? 3).map (fun i => (i.zero, i.size, i.bytes)) = some (some (.int .i64 0), 1, 8) := by kernel_rfl
theorem int_info : ∃ i, Tryd.prog.info? 3 = some i ∧ i.zero = some (.int .i64 0) ∧ i.size = 1 ∧ i.bytes = 8 := by
  have h := info_i64
  cases hi : Tryd.prog.info? 3 with
  | none => rw [hi] at h; simp at h
  | some i => rw [hi] at h; simp at h; exact ⟨i, rfl, h.1, h.2.1, h.2.2⟩
theorem own_drewN {w : World} {base size n : Nat} {e : TypeId} {v : Value} {xs : List Value} (h : w.ownsRow base e size v n xs) (k : Nat) : (w.drewN k).ownsRow base e size v n xs := h
theorem ints_one (k : IntKind) (l : List Int) : ∀ u ∈ l.map (Value.int k), u.oneCell' = true := by
  intro u hu
  obtain ⟨z, _, rfl⟩ := List.mem_map.1 hu
  rfl
/-- block 'g' holds the numbers 'os', and 'T' behind them -/
def IRow (w : World) (g : Nat) (os : List Int) (T : List Value) : Prop := Blk w g 3 (os.map (Value.int .i64) ++ T).toArray
section
variable {w : World} {g : Nat} {os : List Int} {T : List Value}
theorem IRow.cell (h : IRow w g os T) {k : Nat} {o : Int} (hk : os[k]? = some o) : w.cell? ⟨g, k, none⟩ = some (.int .i64 o) := by
  have hl := (List.getElem?_eq_some_iff.1 hk).1
  rw [Blk.cell h k, List.getElem?_toArray, List.getElem?_append_left (by simpa using hl), List.getElem?_map, hk]
  rfl
theorem IRow.cell0 (h : IRow w g os T) {k : Nat} {o : Int} (hk : os[k]? = some o) : w.cell? ⟨g, 0 + k, none⟩ = some (.int .i64 o) := by
  rw [Nat.zero_add]; exact h.cell hk
theorem IRow.frozen (h : IRow w g os T) (k : Nat) : w.frozen? ⟨g, k, none⟩ = false := Blk.frozen h k
theorem IRow.set_ (h : IRow w g os T) {k : Nat} (hk : k < os.length) (x : Int) : IRow (w.setCell ⟨g, k, none⟩ (.int .i64 x)) g (os.set k x) T := by
  have h1 := Blk.set_ h k (.int .i64 x)
  have e : (os.map (Value.int .i64) ++ T).toArray.setIfInBounds k (.int .i64 x) = ((os.set k x).map (Value.int .i64) ++ T).toArray := by
    rw [← Array.toList_inj]
    simp only [Array.toList_setIfInBounds]
    rw [List.set_append_left _ _ (by simpa using hk), List.map_set]
  rw [e] at h1
  exact h1
theorem IRow.own (h : IRow w g os T) {base n cap : Nat} (hb : base ≤ g) (hn : os.length = n) (hc : n + T.length = cap) (hm : cap ≤ maxLen) : w.ownsRow base 3 1 (.slice (some ⟨g, 0, none⟩) n cap) n (os.map (Value.int .i64)) :=
  ⟨by simp [hn], .inr ⟨g, cap, _, rfl, hb, h, by omega, hm, by simp [hn]; omega, by rw [List.take_append_of_le_length (by simp [hn])]; exact List.take_of_length_le (by simp [hn])⟩⟩
theorem IRow.reads (h : IRow w g os T) {n : Nat} (hn : os.length = n) : Reads w w.heap.size 1 (some ⟨g, 0, none⟩) n (os.map (Value.int .i64)) := by
  refine ⟨by simp [hn], fun _ => ⟨_, rfl, Blk.lt h, fun j u hj => ?_⟩⟩
  have e : (⟨g, 0, none⟩ : Addr).add j = ⟨g, j, none⟩ := by unfold Addr.add; split <;> simp_all
  rw [List.getElem?_map] at hj
  cases ho : os[j]? with
  | none => rw [ho] at hj; cases hj
  | some o => rw [ho] at hj; injection hj with hj; rw [e, h.cell ho, ← hj]
theorem own_irow {base n : Nat} {v : Value} (h : w.ownsRow base 3 1 v n (os.map (Value.int .i64))) (hn : 0 < n) :
    ∃ g cap T, v = .slice (some ⟨g, 0, none⟩) n cap ∧ base ≤ g ∧ g < w.heap.size ∧ n ≤ cap ∧ cap ≤ maxLen ∧ n + T.length = cap ∧ IRow w g os T := by
  rcases h.2 with ⟨_, h0⟩ | ⟨g, cap, cur, hv, hb, hh, hc, hm, hs, ht⟩
  · omega
  · refine ⟨g, cap, cur.toList.drop (n * 1), hv, hb, Blk.lt (t := 3) hh, hc, hm, by simp; omega, ?_⟩
    unfold IRow
    rw [← ht, List.take_append_drop]
    exact hh
end

theorem sameInts_row (A A' : Option Addr) (n c c' : Nat) (zs : List Int) (B : Nat) (w : World) (hl : zs.length = n) (hm : n ≤ 9223372036854775807) (hr : Reads w B 1 A n (zs.map (.int .i64))) (hr' : Reads w B 1 A' n (zs.map (.int .i64))) :
    Calls Tryd.prog 8 #[.slice A n c, .slice A' n c'] w fun e w' => e = .returned (.bool true) ∧ ∃ nq, w.drewN nq = w' := by
  have HR := hide hr
  have HR' := hide hr'
  clear hr hr'
  have HL := hide hl
  clear hl
  go_enter Tryd.func8, Tryd.ntmps8
  go_wp2_with fail
  go_loopw [5] (fun i wr => ∃ k nq : Nat, k ≤ n ∧ i = .int .i64 k ∧ wr = w.drewN nq) (fun i _ => n - (intOf i).toNat)
  case atStart => exact ⟨0, 0, Nat.zero_le _, rfl, rfl⟩
  case round =>
    obtain ⟨k, nq, hk, rfl, rfl⟩ := hrel
    by_cases hlt : k < n
    · obtain ⟨b, o, z, rfl, hb, hz, hc⟩ := at_num (unhide HR) hlt
      obtain ⟨b', o', z', rfl, hb', hz', hc'⟩ := at_num (unhide HR') hlt
      obtain rfl : z = z' := by rw [hz] at hz'; injection hz'
      have hkn : (k : Int) < (n : Int) := by omega
      clear hz hz' hb hb'
      go_wp2_with fail
      go_quiet (fail)
      go_wp2_with fail
      go_roundw
      case rel => exact ⟨k + 1, _, by omega, by go_num, rfl⟩
      case measure => simp [intOf]; omega
    · obtain rfl : k = n := by omega
      go_wp2_with fail
      go_ret
      exact ⟨rfl, nq, rfl⟩
end Go.Proofs.YtcmkcgegdclllaaDoor
