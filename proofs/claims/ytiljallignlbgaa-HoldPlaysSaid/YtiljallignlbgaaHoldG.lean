/- Contract of a shelf's order, a tick. Conditions: none beyond what each theorem states. -/
import Derived.Test.YtiljallignlbgaaHoldE
import Derived.Test.YtiljallignlbgaaOwnG
namespace Go.Proofs.Ytiljallignlbgaa
open Go.RowKit
set_option linter.unusedVariables false

theorem overClo_any (x : Hd) (w : World) :
    Calls Try.prog 37 #[.agg #[.int .i64 x.id, .int .i64 x.count, .int .i64 x.life]] w fun e w' => e = .returned (.bool (x.life == 0)) ∧ Below w.heap.size w w' := by
  go_enter Try.func37, Try.ntmps37
  go_wp2_with fail
  go_ret
  exact ⟨rfl, (Below.refl _ _).alloc (Nat.le_refl _) _⟩
theorem overClo_enters (args : Array Value) (W : World) : (callFunc 37 args).run Try.prog W = .ok (.enter 37 args) W :=
  callFunc_enters Try.func37 (by kernel_rfl) rfl args W
theorem overs_append (a b : List Hd) : overs (a ++ b) = overs a + overs b := by
  induction a with
  | nil => simp [overs]
  | cons h l ih => simp [overs, ih]; omega
theorem overs_take (l : List Hd) (k : Nat) (h : Hd) (hk : l[k]? = some h) : overs (l.take (k + 1)) = overs (l.take k) + (if h.life = 0 then h.count else 0) := by
  rw [take_snoc l k h hk, overs_append]; simp [overs]
theorem overs_take_le {l : List Hd} (h : ∀ x ∈ l, 0 ≤ x.count) (k : Nat) : 0 ≤ overs (l.take k) ∧ overs (l.take k) ≤ heldL l := by
  have h1 : 0 ≤ overs (l.take k) := overs_nonneg fun x hx => h x (List.mem_of_mem_take hx)
  have h2 : overs l = overs (l.take k) + overs (l.drop k) := by rw [← overs_append, List.take_append_drop]
  have h3 : 0 ≤ overs (l.drop k) := overs_nonneg fun x hx => h x (List.mem_of_mem_drop hx)
  have h4 := heldL_stays l
  have h5 : 0 ≤ heldL (stays l) := heldL_nonneg fun x hx => h x (List.mem_filter.1 hx).1
  omega
/-- the holds of which the first k have aged -/
def agedTo (l : List Hd) (k : Nat) : List Hd := (l.take k).map aged ++ l.drop k
theorem agedTo_zero (l : List Hd) : agedTo l 0 = l := by simp [agedTo]
theorem agedTo_all (l : List Hd) : agedTo l l.length = l.map aged := by simp [agedTo]
theorem agedTo_len (l : List Hd) (k : Nat) : (agedTo l k).length = l.length := by
  unfold agedTo; rw [List.length_append, List.length_map, ← List.length_append, List.take_append_drop]
theorem agedTo_get (l : List Hd) (k : Nat) (hk : k < l.length) : (agedTo l k)[k]? = l[k]? := by
  unfold agedTo
  rw [List.getElem?_append_right (by simp; omega), List.length_map, List.length_take, Nat.min_eq_left (by omega), Nat.sub_self, List.getElem?_drop]; rfl
theorem agedTo_set (l : List Hd) (k : Nat) (x : Hd) (hx : l[k]? = some x) : (agedTo l k).set k (aged x) = agedTo l (k + 1) := by
  have hk := (List.getElem?_eq_some_iff.1 hx).1
  unfold agedTo
  rw [List.set_append_right _ _ (by simp; omega), List.length_map, List.length_take, Nat.min_eq_left (by omega), Nat.sub_self, drop_cons l k x hx, List.set_cons_zero, take_snoc l k x hx, List.map_append]
  simp
/-- one hold of an own row ages -/
theorem own_ages {w : World} {base g n c k : Nat} {l : List Hd} {x : Hd} (h : w.ownsRow base 96 3 (.slice (some ⟨g, 0, none⟩) n c) n (l.flatMap Hd.cells)) (hx : l[k]? = some x) :
    (w.setCell ⟨g, k * 3 + 2, none⟩ (.int .i64 (x.life - 1))).ownsRow base 96 3 (.slice (some ⟨g, 0, none⟩) n c) n ((l.set k (aged x)).flatMap Hd.cells) := by
  have h1 := (h.stored (k * 3 + 2) (.int .i64 (x.life - 1))).1
  have e := flat_set Hd.cells_len l k 2 x (aged x) (.int .i64 (x.life - 1)) hx (by omega) rfl
  rw [e] at h1
  exact h1
/-- the row's holds stand anew, the shelf's own cells as before -/
theorem ShAt.row_ {w w' : World} {base g o : Nat} {cs : Array Value} {s : Shf} {v : Value} {l : List Hd} (h : ShAt w base g o cs s v) (hown : w'.ownsRow base 96 3 v l.length (l.flatMap Hd.cells)) (hb : Blk w' g 51 cs) : ShAt w' base g o cs { s with opn := l } v :=
  ⟨hb, h.has, hown⟩
end Go.Proofs.Ytiljallignlbgaa
