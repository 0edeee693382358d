/- Views: what is masked; lists of what is told that the call makes; contracts of gossip.In and of the reference's reads. Conditions: none beyond what each theorem states. -/
import Derived.Test.YtbkciniikahjhaaTold
import Derived.Test.YtbkciniikahjhaaLabMay
import Derived.Test.YtbkciniikahjhaaOwnG
namespace Go.Proofs.Ytbkciniikahjhaa
open Go.RowKit
set_option linter.unusedVariables false

theorem labIn_any (s who : Nat) (hs : s ≤ 255) (hw : who ≤ 8) (w : World) : Calls Try.prog 51 #[.int .i64 s, .int .i64 who] w fun e w' => e = .returned (.bool (s.testBit who)) ∧ w = w' := by
  have HF := hide (bit_i64 s who hs)
  go_enter Try.func51, Try.ntmps51
  go_wp2
  go_ret
  exact ⟨ret_bool (unhide HF), rfl⟩
theorem labReads_any (s who : Nat) (hs : s ≤ 255) (hw : who ≤ 8) (w : World) : Calls Try.prog 43 #[.int .i64 s, .int .i64 who] w fun e w' => e = .returned (.bool (s.testBit who)) ∧ w = w' := by
  have HF := hide (bit_i64 s who hs)
  go_enter Try.func43, Try.ntmps43
  go_wp2
  go_ret
  exact ⟨ret_bool (unhide HF), rfl⟩

def mineB (br s : Nat) (who : Int) : Bool := decide (0 ≤ who) && decide (who < br) && s.testBit who.toNat
def maskD (br s : Nat) (d : TolD) : TolD := if mineB br s d.who then d else ⟨0, d.who, Stk.none, 0, d.sent, [], d.report⟩

/-- rows of the call's own -/
structure TolOwn (t : Tol) (w : World) (base : Nat) : Prop where
  so : w.ownsRow base 80 4 (.slice t.sA t.sn t.sc) t.sn (t.d.sent.flatMap Envl.cells)
  fo : w.ownsRow base 5 1 (.slice t.fA t.fn t.fc) t.fn (t.d.frame.map (.int .u8))
  ro : w.ownsRow base 3 1 (.slice t.rA t.rn t.rc) t.rn (t.d.report.map (.int .i64))
section
variable {t : Tol} {w w' : World} {base base' : Nat}
theorem TolOwn.below (h : TolOwn t w base) (hb : Below w.heap.size w w') : TolOwn t w' base := ⟨own_below' h.so hb, own_below' h.fo hb, own_below' h.ro hb⟩
theorem TolOwn.mono (h : TolOwn t w base) (hb : base' ≤ base) : TolOwn t w base' := ⟨own_mono h.so hb, own_mono h.fo hb, own_mono h.ro hb⟩
theorem TolOwn.grown {size n : Nat} {v : Value} {xs : List Value} (h : TolOwn t w base) (hown : w.ownsRow base' 77 size v n xs) (hg : w.grownBy w' v.ownBlock) : TolOwn t w' base :=
  ⟨World.ownsRow.kept h.so hg (own_own_ne h.so hown (by decide)), World.ownsRow.kept h.fo hg (own_own_ne h.fo hown (by decide)), World.ownsRow.kept h.ro hg (own_own_ne h.ro hown (by decide))⟩
theorem TolOwn.ok (h : TolOwn t w base) : t.ok w w.heap.size where
  sl := by have := h.so.1; rw [flat_len Envl.cells_len] at this; omega
  sc := (own_caps h.so).2.1
  sm := (own_caps h.so).2.2
  sr := Reads.of_own h.so
  fl := by have := h.fo.1; simpa using this
  fc := (own_caps h.fo).2.1
  fm := (own_caps h.fo).2.2
  fr := Reads.of_own h.fo
  rl := by have := h.ro.1; simpa using this
  rc := (own_caps h.ro).2.1
  rm := (own_caps h.ro).2.2
  rr := Reads.of_own h.ro
end
/-- a list of what is told, of the call's own -/
def OutT (w : World) (base : Nat) (v : Value) (l : List Tol) : Prop := w.ownsRow base 77 11 v l.length (l.flatMap Tol.cells) ∧ ∀ t ∈ l, TolOwn t w base
section
variable {w w' : World} {base : Nat} {v v' : Value} {l : List Tol} {t : Tol}
theorem OutT.nil (w : World) (base : Nat) : OutT w base (.slice none 0 0) [] := ⟨World.ownsRow_nil _ _ _ _, fun _ h => by cases h⟩
theorem OutT.below (h : OutT w base v l) (hb : Below w.heap.size w w') : OutT w' base v l := ⟨own_below' h.1 hb, fun t ht => (h.2 t ht).below hb⟩
theorem OutT.push (h : OutT w base v l) (ht : TolOwn t w base) (hg : w.grownBy w' v.ownBlock) (hown : w'.ownsRow base 77 11 v' (l.length + 1) (l.flatMap Tol.cells ++ t.cells)) : OutT w' base v' (l ++ [t]) := by
  refine ⟨?_, fun x hx => ?_⟩
  · rw [List.length_append, List.flatMap_append]
    simpa using hown
  · rcases List.mem_append.1 hx with h1 | h1
    · exact (h.2 x h1).grown h.1 hg
    · rw [List.mem_singleton] at h1
      subst h1
      exact ht.grown h.1 hg
theorem OutT.at_ (h : OutT w base v l) : ∃ A c, v = .slice A l.length c ∧ l.length ≤ c ∧ c ≤ maxLen ∧ Reads w w.heap.size 11 A l.length (l.flatMap Tol.cells) ∧ ∀ t ∈ l, t.ok w w.heap.size := by
  obtain ⟨A, c, rfl, hc⟩ := own_slice h.1
  exact ⟨A, c, rfl, hc, (own_caps h.1).2.2, Reads.of_own h.1, fun t ht => (h.2 t ht).ok⟩
end
theorem info_told : (Try.prog.info? 77).map (fun i => (i.zero, i.size, i.bytes)) = some (some (.agg #[.int .i64 0, .int .i64 0, .int .i64 0, .int .i64 0, .int .i64 0, .int .i64 0, .int .i64 0, .int .i64 0, .slice none 0 0, .slice none 0 0, .slice none 0 0]), 11, 136) := by kernel_rfl
theorem told_info : ∃ i, Try.prog.info? 77 = some i ∧ i.zero = some (.agg #[.int .i64 0, .int .i64 0, .int .i64 0, .int .i64 0, .int .i64 0, .int .i64 0, .int .i64 0, .int .i64 0, .slice none 0 0, .slice none 0 0, .slice none 0 0]) ∧ i.size = 11 ∧ i.bytes = 136 := by
  have h := info_told
  cases hi : Try.prog.info? 77 with
  | none => rw [hi] at h; simp at h
  | some i => rw [hi] at h; simp at h; exact ⟨i, rfl, h.1, h.2.1, h.2.2⟩
end Go.Proofs.Ytbkciniikahjhaa
