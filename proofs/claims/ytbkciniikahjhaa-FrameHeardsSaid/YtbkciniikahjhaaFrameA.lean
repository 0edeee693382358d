/- Configs: how one lies in memory. Conditions: none beyond what each theorem states. -/
import Derived.Test.YtbkciniikahjhaaIRw
import Derived.Test.YtbkciniikahjhaaIntIdx
import Derived.Test.YtbkciniikahjhaaLabMay
import Derived.OpenShut
import Derived.Carry
namespace Go.Proofs.Ytbkciniikahjhaa
open Go.RowKit Go.ChangeShapes Go.WideShapes Go.Deep
set_option linter.unusedVariables false

structure Cfg where
  br : Int
  la : IRw
  tk : Int
  mi : IRw
  cap : Int
def Cfg.val (c : Cfg) : Value := .agg #[.int .i64 c.br, .slice c.la.A c.la.n c.la.c, .int .i64 c.tk, .slice c.mi.A c.mi.n c.mi.c, .int .i64 c.cap]
def Cfg.ok (c : Cfg) (w : World) (B : Nat) : Prop := c.la.ok w B ∧ c.mi.ok w B ∧ ∀ z ∈ c.la.zs, (Lit.int .i64 z).wf = true
theorem Cfg.ok.below {c : Cfg} {w w' : World} {B : Nat} (h : c.ok w B) (hb : Below B w w') : c.ok w' B := ⟨h.1.below hb, h.2.1.below hb, h.2.2⟩
theorem Cfg.ok.more {c : Cfg} {w : World} {B B' : Nat} (h : c.ok w B) (hB : B ≤ B') : c.ok w B' := ⟨h.1.more hB, h.2.1.more hB, h.2.2⟩

theorem open_irowW {H : Type} {enc : TypeId × Value → H} {w : World} {base : Nat} {spare : Nat → Bool} {held : Bool} {fuel : Nat} {cs : List Value} {x : DataW H × List MemPlace}
    (h : DataW.trod enc Try.prog w base spare held fuel 22 cs = some x) : ∃ r : IRw, cs = [r.val] ∧ r.ok w w.heap.size ∧ ∀ z ∈ r.zs, (Lit.int .i64 z).wf = true := by
  rcases open_slice Try.underlying22 h with ⟨rfl, _⟩ | ⟨a, len, cap, m, n, D, Pl, rfl, _⟩
  · exact ⟨⟨none, 0, 0, []⟩, rfl, ⟨rfl, Nat.le_refl _, Nat.zero_le _, Reads.none_⟩, fun z hz => by cases hz⟩
  · obtain ⟨h1, h2, zs, h3, h4, h5⟩ := ints_reads Try.underlying22 Try.underlying3 (by kernel_rfl) h
    exact ⟨⟨some a, len, cap, zs⟩, rfl, ⟨h3, h1, h2, h4⟩, h5⟩
theorem open_config {H : Type} {enc : TypeId × Value → H} {w : World} {r : Reach} {b0 base : Nat} {spare : Nat → Bool} {held : Bool} {v : Value} {d : DataW H} {ps : List MemPlace}
    (hval : Value.okWide Try.prog w r b0 24 v) (h : DataW.Trod enc Try.prog w base spare held 24 v d ps) : ∃ c : Cfg, v = c.val ∧ c.ok w w.heap.size := by
  obtain ⟨cs, rfl, hsz⟩ := okWide_struct Try.underlying24 hval
  obtain ⟨n, h⟩ := h
  obtain ⟨hl, ys, _, _, m, hf⟩ := struct_cells Try.underlying24 (by kernel_rfl) (by kernel_rfl) h
  obtain ⟨v0, y0, c0, _, t0⟩ := hf 0 _ rfl
  obtain ⟨v1, y1, c1, _, t1⟩ := hf 1 _ rfl
  obtain ⟨v2, y2, c2, _, t2⟩ := hf 2 _ rfl
  obtain ⟨v3, y3, c3, _, t3⟩ := hf 3 _ rfl
  obtain ⟨v4, y4, c4, _, t4⟩ := hf 4 _ rfl
  obtain ⟨z0, e0, _, _⟩ := DataW.trod_int Try.underlying3 t0
  obtain ⟨r1, e1, g1, w1⟩ := open_irowW t1
  obtain ⟨z2, e2, _, _⟩ := DataW.trod_int Try.underlying3 t2
  obtain ⟨r3, e3, g3, _⟩ := open_irowW t3
  obtain ⟨z4, e4, _, _⟩ := DataW.trod_int Try.underlying3 t4
  injection e0 with e0
  injection e1 with e1
  injection e2 with e2
  injection e3 with e3
  injection e4 with e4
  subst e0 e1 e2 e3 e4
  refine ⟨⟨z0, r1, z2, r3, z4⟩, ?_, g1, g3, w1⟩
  obtain ⟨l⟩ := cs
  have hl' : l.length = 5 := hl
  match l, hl' with
  | [a, b, c, d, e], _ =>
    simp [Value.cells] at c0 c1 c2 c3 c4
    subst c0 c1 c2 c3 c4
    rfl

def badN (z : Int) : Bool := decide (z < 0) || decide (1048576 < z)
def badLab (b s : Int) : Bool := decide (s < 0) || decide (2 ^ b.toNat ≤ s)
def inB (n lo hi : Int) : Bool := decide (lo ≤ n) && decide (n ≤ hi)
def configP (c : Cfg) : Bool := inB c.br 1 8 && decide (c.la.zs.length ≤ 4) && inB c.tk 1 8 && inB c.mi.zs.length 1 3 && inB c.cap 0 1048576 && !(c.la.zs.any (badLab c.br)) && !(c.mi.zs.any badN)

theorem frameIn_any (n lo hi : Int) (w : World) : Calls Try.prog 25 #[.int .i64 n, .int .i64 lo, .int .i64 hi] w fun e w' => e = .returned (.bool (inB n lo hi)) ∧ w = w' := by
  by_cases h0 : lo ≤ n
  · have HF := hide (show inB n lo hi = decide (n ≤ hi) by simp [inB, h0])
    go_enter Try.func25, Try.ntmps25
    go_wp2_with fail
    go_ret
    exact ⟨ret_bool (unhide HF).symm, rfl⟩
  · have HF := hide (show inB n lo hi = false by simp [inB, h0])
    go_enter Try.func25, Try.ntmps25
    go_wp2_with fail
    go_ret
    exact ⟨ret_bool (unhide HF).symm, rfl⟩

theorem mayClo2_any (z : Int) (w : World) : Calls Try.prog 29 #[.int .i64 z] w fun x w' => x = .returned (.bool (badN z)) ∧ w = w' := by
  have H := hide (fun W => frameIn_any z 0 1048576 W)
  have HF := hide (show (!inB z 0 1048576) = badN z by unfold inB badN; rw [Bool.eq_iff_iff]; simp <;> omega)
  generalize inB z 0 1048576 = x at H HF
  go_enter Try.func29, Try.ntmps29
  go_wp2_with fail
  refine (unhide H _).mono ?_
  rintro _ _ ⟨rfl, rfl⟩
  go_wp2_with fail
  go_ret
  exact ⟨ret_bool (unhide HF), rfl⟩
end Go.Proofs.Ytbkciniikahjhaa
