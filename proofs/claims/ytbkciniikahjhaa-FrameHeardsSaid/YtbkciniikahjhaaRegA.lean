/- Entries: how they lie in memory, and contracts of reg.one and of what it calls. Conditions: none beyond what each theorem states. -/
import Derived.Test.YtbkciniikahjhaaProg
import Derived.Test.YtbkciniikahjhaaKit
import Derived.Test.YtbkciniikahjhaaMem
import Derived.Test.YtbkciniikahjhaaOpen
import Derived.BigQuiet
import Derived.Deep.RegionHeld3
namespace Go.Proofs.Ytbkciniikahjhaa
open Go.RowKit Go.ChangeShapes Go.WideShapes Go.Deep
set_option linter.unusedVariables false

structure Ent where
  key : Int
  value : Int
  time : Int
  who : Int
  gone : Bool
deriving DecidableEq
def entCells (e : Ent) : List Value := [.int .i64 e.key, .int .i64 e.value, .int .i64 e.time, .int .i64 e.who, .bool e.gone]
theorem entCells_len (e : Ent) : (entCells e).length = 5 := rfl
def entWf (e : Ent) : Prop := (Lit.int .i64 e.key).wf = true ∧ (Lit.int .i64 e.value).wf = true ∧ (Lit.int .i64 e.time).wf = true ∧ (Lit.int .i64 e.who).wf = true

theorem open_entries {H : Type} {enc : TypeId × Value → H} {w : World} {base : Nat} {spare : Nat → Bool} {held : Bool} {fuel : Nat} {A : Option Addr} {len cap : Nat} {x : DataW H × List MemPlace}
    (h : DataW.trod enc Try.prog w base spare held fuel 60 [.slice A len cap] = some x) :
    len ≤ cap ∧ cap ≤ maxLen ∧ SliceD x.1 len ∧ ∃ l : List Ent, l.length = len ∧ Reads w w.heap.size 5 A len (l.flatMap entCells) ∧ ∀ a ∈ l, entWf a := by
  refine rows_reads entCells entWf Try.underlying60 (size := 5) (by kernel_rfl) (by omega) (fun n cs y hy => ?_) h
  obtain ⟨hl, ys, _, _, m, hf⟩ := struct_cells Try.underlying65 (by kernel_rfl) (by kernel_rfl) hy
  obtain ⟨v0, y0, c0, _, t0⟩ := hf 0 _ rfl
  obtain ⟨v1, y1, c1, _, t1⟩ := hf 1 _ rfl
  obtain ⟨v2, y2, c2, _, t2⟩ := hf 2 _ rfl
  obtain ⟨v3, y3, c3, _, t3⟩ := hf 3 _ rfl
  obtain ⟨v4, y4, c4, _, t4⟩ := hf 4 _ rfl
  obtain ⟨z0, e0, _, w0⟩ := DataW.trod_int Try.underlying3 t0
  obtain ⟨z1, e1, _, w1⟩ := DataW.trod_int Try.underlying3 t1
  obtain ⟨z2, e2, _, w2⟩ := DataW.trod_int Try.underlying3 t2
  obtain ⟨z3, e3, _, w3⟩ := DataW.trod_int Try.underlying3 t3
  obtain ⟨z4, e4, _⟩ := DataW.trod_bool Try.underlying4 t4
  simp at e0 e1 e2 e3 e4
  subst e0 e1 e2 e3 e4
  refine ⟨hl, ⟨z0, z1, z2, z3, z4⟩, ?_, w0, w1, w2, w3⟩
  match cs, hl with
  | [a, b, c, d, e], _ =>
    simp at c0 c1 c2 c3 c4
    subst c0 c1 c2 c3 c4
    rfl

def inP (n m : Int) : Bool := decide (0 ≤ n) && decide (n ≤ m)
def oneP (e : Ent) : Bool := inP e.key 1048576 && inP e.value 1048576 && inP e.time 1048576 && inP e.who 7 && !(e.gone && decide (0 < e.value))
def entV (e : Ent) : Value := .agg #[.int .i64 e.key, .int .i64 e.value, .int .i64 e.time, .int .i64 e.who, .bool e.gone]

theorem regIn_any (n m : Int) (w : World) : Calls Try.prog 65 #[.int .i64 n, .int .i64 m] w fun e w' => e = .returned (.bool (inP n m)) ∧ w = w' := by
  by_cases h0 : 0 ≤ n
  · have HF := hide (show inP n m = decide (n ≤ m) by simp [inP, h0])
    go_enter Try.func65, Try.ntmps65
    go_wp2
    go_ret
    exact ⟨ret_bool (by rw [unhide HF]), rfl⟩
  · have HF := hide (show inP n m = false by simp [inP, h0])
    go_enter Try.func65, Try.ntmps65
    go_wp2
    go_ret
    exact ⟨ret_bool (by rw [unhide HF]), rfl⟩

set_option maxHeartbeats 1600000 in
theorem regOne_any (e : Ent) (w : World) : Calls Try.prog 62 #[entV e] w fun x w' => x = .returned (.bool (oneP e)) ∧ w.alloc (.cells (entCells e).toArray 65) = w' := by
  obtain ⟨k, v, t, o, g⟩ := e
  have H1 := hide (fun W => regIn_any k 1048576 W)
  have H2 := hide (fun W => regIn_any v 1048576 W)
  have H3 := hide (fun W => regIn_any t 1048576 W)
  have H4 := hide (fun W => regIn_any o 7 W)
  have HF := hide (show oneP ⟨k, v, t, o, g⟩ = (inP k 1048576 && inP v 1048576 && inP t 1048576 && inP o 7 && !(g && decide (0 < v))) from rfl)
  obtain ⟨b1, h1⟩ : ∃ b, inP k 1048576 = b := ⟨_, rfl⟩
  obtain ⟨b2, h2⟩ : ∃ b, inP v 1048576 = b := ⟨_, rfl⟩
  obtain ⟨b3, h3⟩ : ∃ b, inP t 1048576 = b := ⟨_, rfl⟩
  obtain ⟨b4, h4⟩ : ∃ b, inP o 7 = b := ⟨_, rfl⟩
  rw [h1] at H1; rw [h2] at H2; rw [h3] at H3; rw [h4] at H4
  rw [h1, h2, h3, h4] at HF
  clear h1 h2 h3 h4
  unfold entV entCells
  cases b1
  · skip
    go_enter Try.func62, Try.ntmps62
    go_wp2_with fail
    refine (unhide H1 _).mono ?_
    rintro _ _ ⟨rfl, rfl⟩
    go_wp2_with fail
    go_ret
    exact ⟨ret_bool (by rw [unhide HF]; rfl), rfl⟩
  cases b2
  · skip
    go_enter Try.func62, Try.ntmps62
    go_wp2_with fail
    refine (unhide H1 _).mono ?_
    rintro _ _ ⟨rfl, rfl⟩
    go_wp2_with fail
    refine (unhide H2 _).mono ?_
    rintro _ _ ⟨rfl, rfl⟩
    go_wp2_with fail
    go_ret
    exact ⟨ret_bool (by rw [unhide HF]; rfl), rfl⟩
  cases b3
  · skip
    go_enter Try.func62, Try.ntmps62
    go_wp2_with fail
    refine (unhide H1 _).mono ?_
    rintro _ _ ⟨rfl, rfl⟩
    go_wp2_with fail
    refine (unhide H2 _).mono ?_
    rintro _ _ ⟨rfl, rfl⟩
    go_wp2_with fail
    refine (unhide H3 _).mono ?_
    rintro _ _ ⟨rfl, rfl⟩
    go_wp2_with fail
    go_ret
    exact ⟨ret_bool (by rw [unhide HF]; rfl), rfl⟩
  cases b4
  · skip
    go_enter Try.func62, Try.ntmps62
    go_wp2_with fail
    refine (unhide H1 _).mono ?_
    rintro _ _ ⟨rfl, rfl⟩
    go_wp2_with fail
    refine (unhide H2 _).mono ?_
    rintro _ _ ⟨rfl, rfl⟩
    go_wp2_with fail
    refine (unhide H3 _).mono ?_
    rintro _ _ ⟨rfl, rfl⟩
    go_wp2_with fail
    refine (unhide H4 _).mono ?_
    rintro _ _ ⟨rfl, rfl⟩
    go_wp2_with fail
    go_ret
    exact ⟨ret_bool (by rw [unhide HF]; rfl), rfl⟩
  cases g
  · skip
    go_enter Try.func62, Try.ntmps62
    go_wp2_with fail
    refine (unhide H1 _).mono ?_
    rintro _ _ ⟨rfl, rfl⟩
    go_wp2_with fail
    refine (unhide H2 _).mono ?_
    rintro _ _ ⟨rfl, rfl⟩
    go_wp2_with fail
    refine (unhide H3 _).mono ?_
    rintro _ _ ⟨rfl, rfl⟩
    go_wp2_with fail
    refine (unhide H4 _).mono ?_
    rintro _ _ ⟨rfl, rfl⟩
    go_wp2_with fail
    go_ret
    exact ⟨ret_bool (by rw [unhide HF]; rfl), rfl⟩
  go_enter Try.func62, Try.ntmps62
  go_wp2_with fail
  refine (unhide H1 _).mono ?_
  rintro _ _ ⟨rfl, rfl⟩
  go_wp2_with fail
  refine (unhide H2 _).mono ?_
  rintro _ _ ⟨rfl, rfl⟩
  go_wp2_with fail
  refine (unhide H3 _).mono ?_
  rintro _ _ ⟨rfl, rfl⟩
  go_wp2_with fail
  refine (unhide H4 _).mono ?_
  rintro _ _ ⟨rfl, rfl⟩
  go_wp2_with fail
  go_ret
  exact ⟨ret_bool (by rw [unhide HF]; rfl), rfl⟩
end Go.Proofs.Ytbkciniikahjhaa
