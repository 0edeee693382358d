/- Contracts and plain facts, set together by program out of smaller texts. Conditions: none beyond what each theorem states. -/
import Derived.Test.YtbolcebmbpepdaaGreatDoorProg
import Derived.BigQuiet
import Derived.Test.YtbolcebmbpepdaaGreatDoorM02
import Derived.Test.YtbolcebmbpepdaaGreatDoorM01
import Derived.Test.YtbolcebmbpepdaaGreatDoorM09
import Derived.Test.YtbolcebmbpepdaaGreatDoorM12
import Derived.Test.YtbolcebmbpepdaaGreatDoorM03
import Derived.Test.YtbolcebmbpepdaaGreatDoorM11
namespace Go.Proofs.YtbolcebmbpepdaaGreatDoor
set_option linter.unusedVariables false
section
open Go.RowKit Go.ChangeShapes Go.WideShapes Go.Deep
structure Envl where
 id : Int
 fr : Int
 to_ : Int
 size : Int
def Envl.cells (e : Envl) : List Value := [.int .i64 e.id, .int .i64 e.fr, .int .i64 e.to_, .int .i64 e.size]
theorem Envl.cells_len (e : Envl) : e.cells.length = 4 := rfl
structure TolD where
 code : Int
 who : Int
 stock : Stk
 value : Int
 sent : List Envl
 frame : List Int
 report : List Int
structure Tol where
 d : TolD
 sA : Option Addr
 sn : Nat
 sc : Nat
 fA : Option Addr
 fn : Nat
 fc : Nat
 rA : Option Addr
 rn : Nat
 rc : Nat
def Tol.cells (t : Tol) : List Value := [.int .i64 t.d.code, .int .i64 t.d.who, .int .i64 t.d.stock.code, .int .i64 t.d.stock.id, .int .i64 t.d.stock.free, .int .i64 t.d.stock.held, .int .i64 t.d.stock.used, .int .i64 t.d.value, .slice t.sA t.sn t.sc, .slice t.fA t.fn t.fc, .slice t.rA t.rn t.rc]
def Tol.val (t : Tol) : Value := .agg #[.int .i64 t.d.code, .int .i64 t.d.who, .int .i64 t.d.stock.code, .int .i64 t.d.stock.id, .int .i64 t.d.stock.free, .int .i64 t.d.stock.held, .int .i64 t.d.stock.used, .int .i64 t.d.value, .slice t.sA t.sn t.sc, .slice t.fA t.fn t.fc, .slice t.rA t.rn t.rc]
theorem Tol.cells_len (t : Tol) : t.cells.length = 11 := rfl
structure Tol.ok (t : Tol) (w : World) (B : Nat) : Prop where
 sl : t.d.sent.length = t.sn
 sc : t.sn ≤ t.sc
 sm : t.sc ≤ maxLen
 sr : Reads w B 4 t.sA t.sn (t.d.sent.flatMap Envl.cells)
 fl : t.d.frame.length = t.fn
 fc : t.fn ≤ t.fc
 fm : t.fc ≤ maxLen
 fr : Reads w B 1 t.fA t.fn (t.d.frame.map (.int .u8))
 rl : t.d.report.length = t.rn
 rc : t.rn ≤ t.rc
 rm : t.rc ≤ maxLen
 rr : Reads w B 1 t.rA t.rn (t.d.report.map (.int .i64))
theorem Tol.ok.keep {t : Tol} {w w' : World} {B : Nat} (h : t.ok w B) (hk : ∀ p : Addr, p.block < B → w'.cell? p = w.cell? p) : t.ok w' B := { h with sr := h.sr.keep hk, fr := h.fr.keep hk, rr := h.rr.keep hk }
theorem Tol.ok.below {t : Tol} {w w' : World} {B : Nat} (h : t.ok w B) (hb : Below B w w') : t.ok w' B := h.keep fun _ hp => hb.cell hp
theorem Tol.ok.more {t : Tol} {w : World} {B B' : Nat} (h : t.ok w B) (hB : B ≤ B') : t.ok w B' := { h with sr := h.sr.more hB, fr := h.fr.more hB, rr := h.rr.more hB }
def Tol.fits (t : Tol) : Prop := t.sn * 32 ≤ 140737488351232 ∧ t.fn * 1 ≤ 140737488351232 ∧ t.rn * 8 ≤ 140737488351232
end
section
open Go.RowKit
theorem yCc (s who : Nat) (hs : s ≤ 255) (hw : who ≤ 8) (w : World) : Calls Tryz.prog 54 #[.int .i64 s, .int .i64 who] w fun e w' => e = .returned (.bool (s.testBit who)) ∧ w = w' := by
 have HF := hide (zYw s who hs)
 go_enter Tryz.func54, Tryz.ntmps54
 go_wp2
 go_ret
 exact ⟨zAo (zAa HF), rfl⟩
def zFs (br s : Nat) (who : Int) : Bool := decide (0 ≤ who) && decide (who < br) && s.testBit who.toNat
def zEc (br s : Nat) (d : TolD) : TolD := if zFs br s d.who then d else ⟨0, d.who, Stk.none, 0, d.sent, [], d.report⟩
structure TolOwn (t : Tol) (w : World) (base : Nat) : Prop where
 so : w.ownsRow base 111 4 (.slice t.sA t.sn t.sc) t.sn (t.d.sent.flatMap Envl.cells)
 fo : w.ownsRow base 5 1 (.slice t.fA t.fn t.fc) t.fn (t.d.frame.map (.int .u8))
 ro : w.ownsRow base 3 1 (.slice t.rA t.rn t.rc) t.rn (t.d.report.map (.int .i64))
section
variable {t : Tol} {w w' : World} {base base' : Nat}
theorem TolOwn.below (h : TolOwn t w base) (hb : Below w.heap.size w w') : TolOwn t w' base := ⟨zAi h.so hb, zAi h.fo hb, zAi h.ro hb⟩
theorem TolOwn.mono (h : TolOwn t w base) (hb : base' ≤ base) : TolOwn t w base' := ⟨zBr h.so hb, zBr h.fo hb, zBr h.ro hb⟩
theorem TolOwn.grown {size n : Nat} {v : Value} {xs : List Value} (h : TolOwn t w base) (hown : w.ownsRow base' 57 size v n xs) (hg : w.grownBy w' v.ownBlock) : TolOwn t w' base :=
 ⟨World.ownsRow.kept h.so hg (zDs h.so hown (by decide)), World.ownsRow.kept h.fo hg (zDs h.fo hown (by decide)), World.ownsRow.kept h.ro hg (zDs h.ro hown (by decide))⟩
theorem TolOwn.ok (h : TolOwn t w base) : t.ok w w.heap.size where
 sl := by have := h.so.1; rw [zHy Envl.cells_len] at this; omega
 sc := (zCx h.so).2.1
 sm := (zCx h.so).2.2
 sr := Reads.of_own h.so
 fl := by have := h.fo.1; simpa using this
 fc := (zCx h.fo).2.1
 fm := (zCx h.fo).2.2
 fr := Reads.of_own h.fo
 rl := by have := h.ro.1; simpa using this
 rc := (zCx h.ro).2.1
 rm := (zCx h.ro).2.2
 rr := Reads.of_own h.ro
end
def OutT (w : World) (base : Nat) (v : Value) (l : List Tol) : Prop := w.ownsRow base 57 11 v l.length (l.flatMap Tol.cells) ∧ ∀ t ∈ l, TolOwn t w base
section
variable {w w' : World} {base : Nat} {v v' : Value} {l : List Tol} {t : Tol}
theorem OutT.nil (w : World) (base : Nat) : OutT w base (.slice none 0 0) [] := ⟨World.ownsRow_nil _ _ _ _, fun _ h => by cases h⟩
theorem OutT.below (h : OutT w base v l) (hb : Below w.heap.size w w') : OutT w' base v l := ⟨zAi h.1 hb, fun t ht => (h.2 t ht).below hb⟩
theorem OutT.push (h : OutT w base v l) (ht : TolOwn t w base) (hg : w.grownBy w' v.ownBlock) (hown : w'.ownsRow base 57 11 v' (l.length + 1) (l.flatMap Tol.cells ++ t.cells)) : OutT w' base v' (l ++ [t]) := by
 refine ⟨?_, fun x hx => ?_⟩
 ·rw [List.length_append, List.flatMap_append]
  simpa using hown
 ·rcases List.mem_append.1 hx with h1 | h1
  ·exact (h.2 x h1).grown h.1 hg
  ·rw [List.mem_singleton] at h1
   subst h1
   exact ht.grown h.1 hg
theorem OutT.at_ (h : OutT w base v l) : ∃ A c, v = .slice A l.length c ∧ l.length ≤ c ∧ c ≤ maxLen ∧ Reads w w.heap.size 11 A l.length (l.flatMap Tol.cells) ∧ ∀ t ∈ l, t.ok w w.heap.size := by
 obtain ⟨A, c, rfl, hc⟩ := zAf h.1
 exact ⟨A, c, rfl, hc, (zCx h.1).2.2, Reads.of_own h.1, fun t ht => (h.2 t ht).ok⟩
end
theorem yDb : (Tryz.prog.info? 57).map (fun i => (i.zero, i.size, i.bytes)) = some (some (.agg #[.int .i64 0, .int .i64 0, .int .i64 0, .int .i64 0, .int .i64 0, .int .i64 0, .int .i64 0, .int .i64 0, .slice none 0 0, .slice none 0 0, .slice none 0 0]), 11, 136) := by kernel_rfl
theorem zRu : ∃ i, Tryz.prog.info? 57 = some i ∧ i.zero = some (.agg #[.int .i64 0, .int .i64 0, .int .i64 0, .int .i64 0, .int .i64 0, .int .i64 0, .int .i64 0, .int .i64 0, .slice none 0 0, .slice none 0 0, .slice none 0 0]) ∧ i.size = 11 ∧ i.bytes = 136 := by
 have h := yDb
 cases hi : Tryz.prog.info? 57 with
 | none => rw [hi] at h; simp at h
 | some i => rw [hi] at h; simp at h; exact ⟨i, rfl, h.1, h.2.1, h.2.2⟩
end
section
open Go.RowKit
theorem zSz (A A' : Option Addr) (n c c' : Nat) (zs : List Int) (B : Nat) (w : World) (hl : zs.length = n) (hm : n ≤ 9223372036854775807) (hr : Reads w B 1 A n (zs.map (.int .i64))) (hr' : Reads w B 1 A' n (zs.map (.int .i64))) :
    Calls Tryz.prog 35 #[.slice A n c, .slice A' n c'] w fun e w' => e = .returned (.bool true) ∧ ∃ nq, w.drewN nq = w' := by
 have HR := hide hr
 have HR' := hide hr'
 clear hr hr'
 have HL := hide hl
 clear hl
 go_enter Tryz.func35, Tryz.ntmps35
 go_wp2_with fail
 go_loopw [5] (fun i wr => ∃ k nq : Nat, k ≤ n ∧ i = .int .i64 k ∧ wr = w.drewN nq) (fun i _ => n - (intOf i).toNat)
 case atStart => exact ⟨0, 0, Nat.zero_le _, rfl, rfl⟩
 case round =>
  obtain ⟨k, nq, hk, rfl, rfl⟩ := hrel
  by_cases hlt : k < n
  ·obtain ⟨b, o, z, rfl, hb, hz, hc⟩ := zDd (zAa HR) hlt
   obtain ⟨b', o', z', rfl, hb', hz', hc'⟩ := zDd (zAa HR') hlt
   obtain rfl : z = z' := by rw [hz] at hz'; injection hz'
   have hkn : (k : Int) < (n : Int) := by omega
   clear hz hz' hb hb'
   go_wp2_with fail
   go_quiet (fail)
   go_wp2_with fail
   go_roundw
   case rel => exact ⟨k + 1, _, by omega, by go_num, rfl⟩
   case measure => simp [intOf]; omega
  ·obtain rfl : k = n := by omega
   go_wp2_with fail
   go_ret
   exact ⟨rfl, nq, rfl⟩
end
section
open Go.RowKit
theorem zMv {α : Type} {l m : List α} {k : Nat} {a b : α} (h : l.take k = m.take k) (ha : l[k]? = some a) (hb : m[k]? = some b) : l.take (k + 1) = m.take (k + 1) ↔ a = b := by
 rw [zBp l k a ha, zBp m k b hb, h]
 simp
theorem zTy (A A' : Option Addr) (n n' c c' : Nat) (zs zs' : List Int) (B : Nat) (w : World) (hl : zs.length = n) (hl' : zs'.length = n') (hm : n ≤ 9223372036854775807) (hm' : n' ≤ 9223372036854775807) (hr : Reads w B 1 A n (zs.map (.int .i64))) (hr' : Reads w B 1 A' n' (zs'.map (.int .i64))) :
    Calls Tryz.prog 37 #[.slice A n c, .slice A' n' c'] w fun e w' => e = .returned (.bool (decide (zs = zs'))) ∧ ∃ nq, w.drewN nq = w' := by
 have HR := hide hr
 have HR' := hide hr'
 have HL := hide hl
 have HL' := hide hl'
 by_cases hnn : n = n'
 ·subst hnn
  clear hr hr' hl hl' hm'
  go_enter Tryz.func37, Tryz.ntmps37
  go_wp2_with fail
  go_loopw [5] (fun i wr => ∃ k nq : Nat, k ≤ n ∧ i = .int .i64 k ∧ wr = w.drewN nq ∧ Hid (zs.take k = zs'.take k)) (fun i _ => n - (intOf i).toNat)
  case atStart => exact ⟨0, 0, Nat.zero_le _, rfl, rfl, rfl⟩
  case round =>
   obtain ⟨k, nq0, hk, rfl, rfl, HT⟩ := hrel
   by_cases hlt : k < n
   ·obtain ⟨b, o, z, rfl, hb, hz, hc⟩ := zDd (zAa HR) hlt
    obtain ⟨b', o', z', rfl, hb', hz', hc'⟩ := zDd (zAa HR') hlt
    have hkn : (k : Int) < (n : Int) := by omega
    have hiff := zMv (zAa HT) hz hz'
    by_cases he : z = z'
    ·subst he
     have HT2 := hide (hiff.2 rfl)
     clear hz hz' hb hb' hiff
     go_wp2_with fail
     go_quiet (fail)
     go_wp2_with fail
     go_roundw
     case rel => exact ⟨k + 1, _, by omega, by go_num, rfl, HT2⟩
     case measure => simp [intOf]; omega
    ·have HF := hide (show decide (zs = zs') = false by rw [decide_eq_false_iff_not]; intro e; exact he (hiff.1 (by rw [e])))
     have hne : (z == z') = false := by simpa using he
     clear hz hz' hb hb' hiff he
     go_wp2_with fail
     go_quiet (fail)
     go_wp2_with fail
     go_ret
     exact ⟨zAo (by rw [zAa HF]), nq0 + nq, (World.drewN_drewN _ _ _).symm⟩
   ·obtain rfl : k = n := by omega
    have HF := hide (show decide (zs = zs') = true by
     rw [decide_eq_true_eq]
     have h := zAa HT
     rwa [List.take_of_length_le (by rw [zAa HL]; exact Nat.le_refl _), List.take_of_length_le (by rw [zAa HL']; exact Nat.le_refl _)] at h)
    go_wp2_with fail
    go_ret
    exact ⟨zAo (by rw [zAa HF]), nq0, rfl⟩
 ·have HF := hide (show decide (zs = zs') = false by rw [decide_eq_false_iff_not]; intro e; rw [e, hl'] at hl; exact hnn hl.symm)
  have hne : ((n : Int) == (n' : Int)) = false := by simp; omega
  clear hr hr' hl hl' hnn
  go_enter Tryz.func37, Tryz.ntmps37
  go_wp2_with fail
  go_ret
  exact ⟨zAo (by rw [zAa HF]), 0, rfl⟩
theorem tol_at {A : Option Addr} {n k B : Nat} {ls : List Tol} {w : World} (hr : Reads w B 11 A n (ls.flatMap Tol.cells)) (hk : k < n) (hl : ls.length = n) : ∃ b o t, A = some ⟨b, o, none⟩ ∧ ls[k]? = some t ∧ w.cell? ⟨b, o + k * 11 + 10, none⟩ = some (.slice t.rA t.rn t.rc) := by
 obtain ⟨b, o, t, e, _, ht, hc⟩ := zCf Tol.cells_len (by omega) hr hk hl
 exact ⟨b, o, t, e, ht, hc 10 _ rfl⟩
theorem zYj (A A' : Option Addr) (n n' c c' : Nat) (ls ls' : List Tol) (B : Nat) (w : World) (hl : ls.length = n) (hl' : ls'.length = n') (hm : n ≤ 100000) (hm' : n' ≤ 100000) (hr : Reads w B 11 A n (ls.flatMap Tol.cells)) (hr' : Reads w B 11 A' n' (ls'.flatMap Tol.cells)) (hok : ∀ t ∈ ls, t.ok w B) (hok' : ∀ t ∈ ls', t.ok w B) :
    Calls Tryz.prog 21 #[.slice A n c, .slice A' n' c'] w fun e w' => e = .returned (.bool (decide (ls.map (fun t => t.d.report) = ls'.map (fun t => t.d.report)))) ∧ ∃ nq, w.drewN nq = w' := by
 have HR := hide hr
 have HR' := hide hr'
 have HL := hide hl
 have HL' := hide hl'
 have HOK := hide hok
 have HOK' := hide hok'
 obtain ⟨ps, hps⟩ : ∃ ps, ps = ls.map (fun t => t.d.report) := ⟨_, rfl⟩
 obtain ⟨ps', hps'⟩ : ∃ ps, ps = ls'.map (fun t => t.d.report) := ⟨_, rfl⟩
 rw [← hps, ← hps']
 have HP := hide hps
 have HP' := hide hps'
 have HPL := hide (show ps.length = n by rw [hps, List.length_map, hl])
 have HPL' := hide (show ps'.length = n' by rw [hps', List.length_map, hl'])
 clear hr hr' hl hl' hok hok' hps hps'
 go_enter Tryz.func21, Tryz.ntmps21
 go_wp2_with fail
 go_loopw [5] (fun i wr => ∃ k nq : Nat, k ≤ n ∧ k ≤ n' ∧ i = .int .i64 k ∧ wr = w.drewN nq ∧ Hid (ps.take k = ps'.take k)) (fun i _ => n - (intOf i).toNat)
 case atStart => exact ⟨0, 0, Nat.zero_le _, Nat.zero_le _, rfl, rfl, rfl⟩
 case round =>
  obtain ⟨k, nq0, hk, hk', rfl, rfl, HT⟩ := hrel
  by_cases hlt : k < n
  ·by_cases hlt' : k < n'
   ·have d1 : decide ((k : Int) < (n : Int)) = true := by simp; omega
    have d2 : decide ((k : Int) < (n' : Int)) = true := by simp; omega
    have hi1 : (k : Int) < (n : Int) := by omega
    have hi2 : (k : Int) < (n' : Int) := by omega
    obtain ⟨b, o, t, rfl, ht, hc⟩ := tol_at (zAa HR) hlt (zAa HL)
    obtain ⟨b', o', t', rfl, ht', hc'⟩ := tol_at (zAa HR') hlt' (zAa HL')
    have h1 := zAa HOK t (List.mem_of_getElem? ht)
    have h2 := zAa HOK' t' (List.mem_of_getElem? ht')
    have hp1 : ps[k]? = some t.d.report := by rw [zAa HP, List.getElem?_map, ht]; rfl
    have hp2 : ps'[k]? = some t'.d.report := by rw [zAa HP', List.getElem?_map, ht']; rfl
    have hiff := zMv (zAa HT) hp1 hp2
    have HC := hide (fun q => zTy t.rA t'.rA t.rn t'.rn t.rc t'.rc t.d.report t'.d.report B (w.drewN q) h1.rl h2.rl (by have := h1.rc; have := h1.rm; unfold maxLen at *; omega) (by have := h2.rc; have := h2.rm; unfold maxLen at *; omega) (h1.rr.drewN q) (h2.rr.drewN q))
    have HC2 := hide (fun a q => yDl (w := w) (a := a) (n := q) ((zAa HC (a + q)).mono fun e w' ⟨he, m, hm⟩ => ⟨he, m, hm.symm⟩))
    by_cases he : t.d.report = t'.d.report
    ·have HT2 := hide (hiff.2 he)
     rw [decide_eq_true he] at HC2
     clear ht ht' h1 h2 hp1 hp2 hiff HC he
     go_wp2_with fail
     go_quiet ((go_at_call 37; exact zAa HC2 _ _))
     go_wp2_with fail
     go_roundw
     case rel => exact ⟨k + 1, _, by omega, by omega, by go_num, rfl, HT2⟩
     case measure => simp [intOf]; omega
    ·have HF := hide (show decide (ps = ps') = false by rw [decide_eq_false_iff_not]; intro e; exact he (hiff.1 (by rw [e])))
     rw [decide_eq_false he] at HC2
     clear ht ht' h1 h2 hp1 hp2 hiff HC he
     go_wp2_with fail
     go_quiet ((go_at_call 37; exact zAa HC2 _ _))
     go_wp2_with fail
     go_ret
     exact ⟨zAo (by rw [zAa HF]), nq0 + nq, (World.drewN_drewN _ _ _).symm⟩
   ·obtain rfl : k = n' := by omega
    have d1 : decide ((k : Int) < (n : Int)) = true := by simp; omega
    have d2 : decide ((k : Int) < (k : Int)) = false := by simp
    have d3 : ((n : Int) == (k : Int)) = false := by simp; omega
    have HF := hide (show decide (ps = ps') = false by rw [decide_eq_false_iff_not]; intro e; have h := zAa HPL; rw [e, zAa HPL'] at h; omega)
    go_wp2_with fail
    go_ret
    exact ⟨zAo (by rw [zAa HF]), nq0, rfl⟩
  ·obtain rfl : k = n := by omega
   have d1 : decide ((k : Int) < (k : Int)) = false := by simp
   by_cases hnn : k = n'
   ·subst hnn
    have HF := hide (show decide (ps = ps') = true by
     rw [decide_eq_true_eq]
     have h := zAa HT
     rwa [List.take_of_length_le (by rw [zAa HPL]; exact Nat.le_refl _), List.take_of_length_le (by rw [zAa HPL']; exact Nat.le_refl _)] at h)
    go_wp2_with fail
    go_ret
    exact ⟨zAo (by rw [zAa HF]), nq0, rfl⟩
   ·have HF := hide (show decide (ps = ps') = false by rw [decide_eq_false_iff_not]; intro e; have h := zAa HPL; rw [e, zAa HPL'] at h; omega)
    have d3 : ((k : Int) == (n' : Int)) = false := by simp; omega
    go_wp2_with fail
    go_ret
    exact ⟨zAo (by rw [zAa HF]), nq0, rfl⟩
end
end Go.Proofs.YtbolcebmbpepdaaGreatDoor
