/- Contracts and plain facts, set together by program out of smaller texts. Conditions: none beyond what each theorem states. -/
import Derived.Test.YtbolcebmbpepdaaDoorProg
import Derived.BigQuiet
import Derived.Test.YtbolcebmbpepdaaDoorM03
import Derived.Test.YtbolcebmbpepdaaDoorM01
import Derived.Test.YtbolcebmbpepdaaDoorM10
import Derived.Test.YtbolcebmbpepdaaDoorM16
import Derived.Test.YtbolcebmbpepdaaDoorM04
import Derived.Test.YtbolcebmbpepdaaDoorM14
import Derived.Test.YtbolcebmbpepdaaDoorM02
namespace Go.Proofs.YtbolcebmbpepdaaDoor
set_option linter.unusedVariables false
section
open Go.RowKit Go.ChangeShapes Go.WideShapes Go.Deep
structure Envl where
  id : Int
  fr : Int
  to_ : Int
  size : Int
def Envl.cells (e : Envl) : List Value := [.int .i64 e.id, .int .i64 e.fr, .int .i64 e.to_, .int .i64 e.size]
theorem Envl.cells_len (e : Envl) : e.cells.length = 4 := rfl
/-- what is told, without its places -/
structure TolD where
  code : Int
  who : Int
  stock : Stk
  value : Int
  sent : List Envl
  frame : List Int
  report : List Int
/-- the places of the three rows -/
structure Tol where
  d : TolD
  sA : Option Addr
  sn : Nat
  sc : Nat
  fA : Option Addr
  fn : Nat
  fc : Nat
  rA : Option Addr
  rn : Nat
  rc : Nat
def Tol.cells (t : Tol) : List Value := [.int .i64 t.d.code, .int .i64 t.d.who, .int .i64 t.d.stock.code, .int .i64 t.d.stock.id, .int .i64 t.d.stock.free, .int .i64 t.d.stock.held, .int .i64 t.d.stock.used, .int .i64 t.d.value, .slice t.sA t.sn t.sc, .slice t.fA t.fn t.fc, .slice t.rA t.rn t.rc]
def Tol.val (t : Tol) : Value := .agg #[.int .i64 t.d.code, .int .i64 t.d.who, .int .i64 t.d.stock.code, .int .i64 t.d.stock.id, .int .i64 t.d.stock.free, .int .i64 t.d.stock.held, .int .i64 t.d.stock.used, .int .i64 t.d.value, .slice t.sA t.sn t.sc, .slice t.fA t.fn t.fc, .slice t.rA t.rn t.rc]
theorem Tol.cells_len (t : Tol) : t.cells.length = 11 := rfl
structure Tol.ok (t : Tol) (w : World) (B : Nat) : Prop where
  sl : t.d.sent.length = t.sn
  sc : t.sn ≤ t.sc
  sm : t.sc ≤ maxLen
  sr : Reads w B 4 t.sA t.sn (t.d.sent.flatMap Envl.cells)
  fl : t.d.frame.length = t.fn
  fc : t.fn ≤ t.fc
  fm : t.fc ≤ maxLen
  fr : Reads w B 1 t.fA t.fn (t.d.frame.map (.int .u8))
  rl : t.d.report.length = t.rn
  rc : t.rn ≤ t.rc
  rm : t.rc ≤ maxLen
  rr : Reads w B 1 t.rA t.rn (t.d.report.map (.int .i64))
theorem Tol.ok.keep {t : Tol} {w w' : World} {B : Nat} (h : t.ok w B) (hk : ∀ p : Addr, p.block < B → w'.cell? p = w.cell? p) : t.ok w' B := { h with sr := h.sr.keep hk, fr := h.fr.keep hk, rr := h.rr.keep hk }
theorem Tol.ok.below {t : Tol} {w w' : World} {B : Nat} (h : t.ok w B) (hb : Below B w w') : t.ok w' B := h.keep fun _ hp => hb.cell hp
theorem Tol.ok.more {t : Tol} {w : World} {B B' : Nat} (h : t.ok w B) (hB : B ≤ B') : t.ok w B' := { h with sr := h.sr.more hB, fr := h.fr.more hB, rr := h.rr.more hB }
end
section
open Go.RowKit
/-- rows of the call's own -/
structure TolOwn (t : Tol) (w : World) (base : Nat) : Prop where
  so : w.ownsRow base 89 4 (.slice t.sA t.sn t.sc) t.sn (t.d.sent.flatMap Envl.cells)
  fo : w.ownsRow base 5 1 (.slice t.fA t.fn t.fc) t.fn (t.d.frame.map (.int .u8))
  ro : w.ownsRow base 3 1 (.slice t.rA t.rn t.rc) t.rn (t.d.report.map (.int .i64))
section
variable {t : Tol} {w w' : World} {base base' : Nat}
theorem TolOwn.below (h : TolOwn t w base) (hb : Below w.heap.size w w') : TolOwn t w' base := ⟨own_below' h.so hb, own_below' h.fo hb, own_below' h.ro hb⟩
theorem TolOwn.mono (h : TolOwn t w base) (hb : base' ≤ base) : TolOwn t w base' := ⟨own_mono h.so hb, own_mono h.fo hb, own_mono h.ro hb⟩
theorem TolOwn.grown {size n : Nat} {v : Value} {xs : List Value} (h : TolOwn t w base) (hown : w.ownsRow base' 42 size v n xs) (hg : w.grownBy w' v.ownBlock) : TolOwn t w' base :=
  ⟨World.ownsRow.kept h.so hg (own_own_ne h.so hown (by decide)), World.ownsRow.kept h.fo hg (own_own_ne h.fo hown (by decide)), World.ownsRow.kept h.ro hg (own_own_ne h.ro hown (by decide))⟩
theorem TolOwn.ok (h : TolOwn t w base) : t.ok w w.heap.size where
  sl := by have := h.so.1; rw [flat_len Envl.cells_len] at this; omega
  sc := (own_caps h.so).2.1
  sm := (own_caps h.so).2.2
  sr := Reads.of_own h.so
  fl := by have := h.fo.1; simpa using this
  fc := (own_caps h.fo).2.1
  fm := (own_caps h.fo).2.2
  fr := Reads.of_own h.fo
  rl := by have := h.ro.1; simpa using this
  rc := (own_caps h.ro).2.1
  rm := (own_caps h.ro).2.2
  rr := Reads.of_own h.ro
end
/-- a list of what is told, of the call's own -/
def OutT (w : World) (base : Nat) (v : Value) (l : List Tol) : Prop := w.ownsRow base 42 11 v l.length (l.flatMap Tol.cells) ∧ ∀ t ∈ l, TolOwn t w base
section
variable {w w' : World} {base : Nat} {v v' : Value} {l : List Tol} {t : Tol}
theorem OutT.nil (w : World) (base : Nat) : OutT w base (.slice none 0 0) [] := ⟨World.ownsRow_nil _ _ _ _, fun _ h => by cases h⟩
theorem OutT.below (h : OutT w base v l) (hb : Below w.heap.size w w') : OutT w' base v l := ⟨own_below' h.1 hb, fun t ht => (h.2 t ht).below hb⟩
theorem OutT.push (h : OutT w base v l) (ht : TolOwn t w base) (hg : w.grownBy w' v.ownBlock) (hown : w'.ownsRow base 42 11 v' (l.length + 1) (l.flatMap Tol.cells ++ t.cells)) : OutT w' base v' (l ++ [t]) := by
  refine ⟨?_, fun x hx => ?_⟩
  · rw [List.length_append, List.flatMap_append]
    simpa using hown
  · rcases List.mem_append.1 hx with h1 | h1
    · exact (h.2 x h1).grown h.1 hg
    · rw [List.mem_singleton] at h1
      subst h1
      exact ht.grown h.1 hg
theorem OutT.at_ (h : OutT w base v l) : ∃ A c, v = .slice A l.length c ∧ l.length ≤ c ∧ c ≤ maxLen ∧ Reads w w.heap.size 11 A l.length (l.flatMap Tol.cells) ∧ ∀ t ∈ l, t.ok w w.heap.size := by
  obtain ⟨A, c, rfl, hc⟩ := own_slice h.1
  exact ⟨A, c, rfl, hc, (own_caps h.1).2.2, Reads.of_own h.1, fun t ht => (h.2 t ht).ok⟩
end
theorem info_told : (Tryd.prog.info? 42).map (fun i => (i.zero, i.size, i.bytes)) = some (some (.agg #[.int .i64 0, .int .i64 0, .int .i64 0, .int .i64 0, .int .i64 0, .int .i64 0, .int .i64 0, .int .i64 0, .slice none 0 0, .slice none 0 0, .slice none 0 0]), 11, 136) := by kernel_rfl
theorem told_info : ∃ i, Tryd.prog.info? 42 = some i ∧ i.zero = some (.agg #[.int .i64 0, .int .i64 0, .int .i64 0, .int .i64 0, .int .i64 0, .int .i64 0, .int .i64 0, .int .i64 0, .slice none 0 0, .slice none 0 0, .slice none 0 0]) ∧ i.size = 11 ∧ i.bytes = 136 := by
  have h := info_told
  cases hi : Tryd.prog.info? 42 with
  | none => rw [hi] at h; simp at h
  | some i => rw [hi] at h; simp at h; exact ⟨i, rfl, h.1, h.2.1, h.2.2⟩
end
end Go.Proofs.YtbolcebmbpepdaaDoor
