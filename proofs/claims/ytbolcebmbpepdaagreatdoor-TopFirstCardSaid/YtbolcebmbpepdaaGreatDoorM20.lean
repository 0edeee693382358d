/- Contracts and plain facts, set together by program out of smaller texts. Conditions: none beyond what each theorem states. -/
import Derived.Deep.Onto
import Derived.Test.YtbolcebmbpepdaaGreatDoorProg
import Derived.BigQuiet
import Derived.Test.YtbolcebmbpepdaaGreatDoorM17
import Derived.Test.YtbolcebmbpepdaaGreatDoorM11
import Derived.Test.YtbolcebmbpepdaaGreatDoorM03
import Derived.Test.YtbolcebmbpepdaaGreatDoorM01
import Derived.Test.YtbolcebmbpepdaaGreatDoorM09
import Derived.Test.YtbolcebmbpepdaaGreatDoorM04
import Derived.Test.YtbolcebmbpepdaaGreatDoorM16
namespace Go.Proofs.YtbolcebmbpepdaaGreatDoor
set_option linter.unusedVariables false
section
open Go.RowKit
def EntsPost (r : List Ent × Int) (e : Ending) (w w' : World) : Prop :=
 ∃ v : Value, e = .returned (.tuple #[v, .int .i64 r.2]) ∧ w'.ownsRow w.heap.size 125 5 v r.1.length (r.1.flatMap entCells) ∧ Below w.heap.size w w'
end
section
open Go.RowKit Go.ChangeShapes Go.WideShapes Go.Deep
structure Envl where
 id : Int
 fr : Int
 to_ : Int
 size : Int
def Envl.cells (e : Envl) : List Value := [.int .i64 e.id, .int .i64 e.fr, .int .i64 e.to_, .int .i64 e.size]
theorem Envl.cells_len (e : Envl) : e.cells.length = 4 := rfl
structure TolD where
 code : Int
 who : Int
 stock : Stk
 value : Int
 sent : List Envl
 frame : List Int
 report : List Int
structure Tol where
 d : TolD
 sA : Option Addr
 sn : Nat
 sc : Nat
 fA : Option Addr
 fn : Nat
 fc : Nat
 rA : Option Addr
 rn : Nat
 rc : Nat
def Tol.cells (t : Tol) : List Value := [.int .i64 t.d.code, .int .i64 t.d.who, .int .i64 t.d.stock.code, .int .i64 t.d.stock.id, .int .i64 t.d.stock.free, .int .i64 t.d.stock.held, .int .i64 t.d.stock.used, .int .i64 t.d.value, .slice t.sA t.sn t.sc, .slice t.fA t.fn t.fc, .slice t.rA t.rn t.rc]
def Tol.val (t : Tol) : Value := .agg #[.int .i64 t.d.code, .int .i64 t.d.who, .int .i64 t.d.stock.code, .int .i64 t.d.stock.id, .int .i64 t.d.stock.free, .int .i64 t.d.stock.held, .int .i64 t.d.stock.used, .int .i64 t.d.value, .slice t.sA t.sn t.sc, .slice t.fA t.fn t.fc, .slice t.rA t.rn t.rc]
theorem Tol.cells_len (t : Tol) : t.cells.length = 11 := rfl
structure Tol.ok (t : Tol) (w : World) (B : Nat) : Prop where
 sl : t.d.sent.length = t.sn
 sc : t.sn ≤ t.sc
 sm : t.sc ≤ maxLen
 sr : Reads w B 4 t.sA t.sn (t.d.sent.flatMap Envl.cells)
 fl : t.d.frame.length = t.fn
 fc : t.fn ≤ t.fc
 fm : t.fc ≤ maxLen
 fr : Reads w B 1 t.fA t.fn (t.d.frame.map (.int .u8))
 rl : t.d.report.length = t.rn
 rc : t.rn ≤ t.rc
 rm : t.rc ≤ maxLen
 rr : Reads w B 1 t.rA t.rn (t.d.report.map (.int .i64))
theorem Tol.ok.keep {t : Tol} {w w' : World} {B : Nat} (h : t.ok w B) (hk : ∀ p : Addr, p.block < B → w'.cell? p = w.cell? p) : t.ok w' B := { h with sr := h.sr.keep hk, fr := h.fr.keep hk, rr := h.rr.keep hk }
theorem Tol.ok.below {t : Tol} {w w' : World} {B : Nat} (h : t.ok w B) (hb : Below B w w') : t.ok w' B := h.keep fun _ hp => hb.cell hp
theorem Tol.ok.more {t : Tol} {w : World} {B B' : Nat} (h : t.ok w B) (hB : B ≤ B') : t.ok w B' := { h with sr := h.sr.more hB, fr := h.fr.more hB, rr := h.rr.more hB }
def Tol.fits (t : Tol) : Prop := t.sn * 32 ≤ 140737488351232 ∧ t.fn * 1 ≤ 140737488351232 ∧ t.rn * 8 ≤ 140737488351232
end
section
open Go.RowKit
theorem labIn_any (s who : Nat) (hs : s ≤ 255) (hw : who ≤ 8) (w : World) : Calls Tryz.prog 54 #[.int .i64 s, .int .i64 who] w fun e w' => e = .returned (.bool (s.testBit who)) ∧ w = w' := by
 have HF := hide (bit_i64 s who hs)
 go_enter Tryz.func54, Tryz.ntmps54
 go_wp2
 go_ret
 exact ⟨ret_bool (unhide HF), rfl⟩
def mineB (br s : Nat) (who : Int) : Bool := decide (0 ≤ who) && decide (who < br) && s.testBit who.toNat
def maskD (br s : Nat) (d : TolD) : TolD := if mineB br s d.who then d else ⟨0, d.who, Stk.none, 0, d.sent, [], d.report⟩
structure TolOwn (t : Tol) (w : World) (base : Nat) : Prop where
 so : w.ownsRow base 111 4 (.slice t.sA t.sn t.sc) t.sn (t.d.sent.flatMap Envl.cells)
 fo : w.ownsRow base 5 1 (.slice t.fA t.fn t.fc) t.fn (t.d.frame.map (.int .u8))
 ro : w.ownsRow base 3 1 (.slice t.rA t.rn t.rc) t.rn (t.d.report.map (.int .i64))
section
variable {t : Tol} {w w' : World} {base base' : Nat}
theorem TolOwn.below (h : TolOwn t w base) (hb : Below w.heap.size w w') : TolOwn t w' base := ⟨own_below' h.so hb, own_below' h.fo hb, own_below' h.ro hb⟩
theorem TolOwn.mono (h : TolOwn t w base) (hb : base' ≤ base) : TolOwn t w base' := ⟨own_mono h.so hb, own_mono h.fo hb, own_mono h.ro hb⟩
theorem TolOwn.grown {size n : Nat} {v : Value} {xs : List Value} (h : TolOwn t w base) (hown : w.ownsRow base' 57 size v n xs) (hg : w.grownBy w' v.ownBlock) : TolOwn t w' base :=
 ⟨World.ownsRow.kept h.so hg (own_own_ne h.so hown (by decide)), World.ownsRow.kept h.fo hg (own_own_ne h.fo hown (by decide)), World.ownsRow.kept h.ro hg (own_own_ne h.ro hown (by decide))⟩
theorem TolOwn.ok (h : TolOwn t w base) : t.ok w w.heap.size where
 sl := by have := h.so.1; rw [flat_len Envl.cells_len] at this; omega
 sc := (own_caps h.so).2.1
 sm := (own_caps h.so).2.2
 sr := Reads.of_own h.so
 fl := by have := h.fo.1; simpa using this
 fc := (own_caps h.fo).2.1
 fm := (own_caps h.fo).2.2
 fr := Reads.of_own h.fo
 rl := by have := h.ro.1; simpa using this
 rc := (own_caps h.ro).2.1
 rm := (own_caps h.ro).2.2
 rr := Reads.of_own h.ro
end
def OutT (w : World) (base : Nat) (v : Value) (l : List Tol) : Prop := w.ownsRow base 57 11 v l.length (l.flatMap Tol.cells) ∧ ∀ t ∈ l, TolOwn t w base
section
variable {w w' : World} {base : Nat} {v v' : Value} {l : List Tol} {t : Tol}
theorem OutT.nil (w : World) (base : Nat) : OutT w base (.slice none 0 0) [] := ⟨World.ownsRow_nil _ _ _ _, fun _ h => by cases h⟩
theorem OutT.below (h : OutT w base v l) (hb : Below w.heap.size w w') : OutT w' base v l := ⟨own_below' h.1 hb, fun t ht => (h.2 t ht).below hb⟩
theorem OutT.push (h : OutT w base v l) (ht : TolOwn t w base) (hg : w.grownBy w' v.ownBlock) (hown : w'.ownsRow base 57 11 v' (l.length + 1) (l.flatMap Tol.cells ++ t.cells)) : OutT w' base v' (l ++ [t]) := by
 refine ⟨?_, fun x hx => ?_⟩
 ·rw [List.length_append, List.flatMap_append]
  simpa using hown
 ·rcases List.mem_append.1 hx with h1 | h1
  ·exact (h.2 x h1).grown h.1 hg
  ·rw [List.mem_singleton] at h1
   subst h1
   exact ht.grown h.1 hg
theorem OutT.at_ (h : OutT w base v l) : ∃ A c, v = .slice A l.length c ∧ l.length ≤ c ∧ c ≤ maxLen ∧ Reads w w.heap.size 11 A l.length (l.flatMap Tol.cells) ∧ ∀ t ∈ l, t.ok w w.heap.size := by
 obtain ⟨A, c, rfl, hc⟩ := own_slice h.1
 exact ⟨A, c, rfl, hc, (own_caps h.1).2.2, Reads.of_own h.1, fun t ht => (h.2 t ht).ok⟩
end
theorem info_told : (Tryz.prog.info? 57).map (fun i => (i.zero, i.size, i.bytes)) = some (some (.agg #[.int .i64 0, .int .i64 0, .int .i64 0, .int .i64 0, .int .i64 0, .int .i64 0, .int .i64 0, .int .i64 0, .slice none 0 0, .slice none 0 0, .slice none 0 0]), 11, 136) := by kernel_rfl
theorem told_info : ∃ i, Tryz.prog.info? 57 = some i ∧ i.zero = some (.agg #[.int .i64 0, .int .i64 0, .int .i64 0, .int .i64 0, .int .i64 0, .int .i64 0, .int .i64 0, .int .i64 0, .slice none 0 0, .slice none 0 0, .slice none 0 0]) ∧ i.size = 11 ∧ i.bytes = 136 := by
 have h := info_told
 cases hi : Tryz.prog.info? 57 with
 | none => rw [hi] at h; simp at h
 | some i => rw [hi] at h; simp at h; exact ⟨i, rfl, h.1, h.2.1, h.2.2⟩
end
section
open Go.RowKit
theorem sameInts_keep (A A' : Option Addr) (n c c' : Nat) (zs : List Int) (B : Nat) (w : World) (hl : zs.length = n) (hm : n ≤ 9223372036854775807) (hr : Reads w B 1 A n (zs.map (.int .i64))) (hr' : Reads w B 1 A' n (zs.map (.int .i64))) :
    Calls Tryz.prog 35 #[.slice A n c, .slice A' n c'] w fun e w' => e = .returned (.bool true) ∧ ∃ nq, w.drewN nq = w' := by
 have HR := hide hr
 have HR' := hide hr'
 clear hr hr'
 have HL := hide hl
 clear hl
 go_enter Tryz.func35, Tryz.ntmps35
 go_wp2_with fail
 go_loopw [5] (fun i wr => ∃ k nq : Nat, k ≤ n ∧ i = .int .i64 k ∧ wr = w.drewN nq) (fun i _ => n - (intOf i).toNat)
 case atStart => exact ⟨0, 0, Nat.zero_le _, rfl, rfl⟩
 case round =>
  obtain ⟨k, nq, hk, rfl, rfl⟩ := hrel
  by_cases hlt : k < n
  ·obtain ⟨b, o, z, rfl, hb, hz, hc⟩ := at_num (unhide HR) hlt
   obtain ⟨b', o', z', rfl, hb', hz', hc'⟩ := at_num (unhide HR') hlt
   obtain rfl : z = z' := by rw [hz] at hz'; injection hz'
   have hkn : (k : Int) < (n : Int) := by omega
   clear hz hz' hb hb'
   go_wp2_with fail
   go_quiet (fail)
   go_wp2_with fail
   go_roundw
   case rel => exact ⟨k + 1, _, by omega, by go_num, rfl⟩
   case measure => simp [intOf]; omega
  ·obtain rfl : k = n := by omega
   go_wp2_with fail
   go_ret
   exact ⟨rfl, nq, rfl⟩
theorem sameBytes_keep (A A' : Option Addr) (n c c' : Nat) (zs : List Int) (B : Nat) (w : World) (hl : zs.length = n) (hm : n ≤ 9223372036854775807) (hr : Reads w B 1 A n (zs.map (.int .u8))) (hr' : Reads w B 1 A' n (zs.map (.int .u8))) :
    Calls Tryz.prog 36 #[.slice A n c, .slice A' n c'] w fun e w' => e = .returned (.bool true) ∧ ∃ nq, w.drewN nq = w' := by
 have HR := hide hr
 have HR' := hide hr'
 clear hr hr'
 have HL := hide hl
 clear hl
 go_enter Tryz.func36, Tryz.ntmps36
 go_wp2_with fail
 go_loopw [5] (fun i wr => ∃ k nq : Nat, k ≤ n ∧ i = .int .i64 k ∧ wr = w.drewN nq) (fun i _ => n - (intOf i).toNat)
 case atStart => exact ⟨0, 0, Nat.zero_le _, rfl, rfl⟩
 case round =>
  obtain ⟨k, nq, hk, rfl, rfl⟩ := hrel
  by_cases hlt : k < n
  ·obtain ⟨b, o, z, rfl, hb, hz, hc⟩ := at_num (unhide HR) hlt
   obtain ⟨b', o', z', rfl, hb', hz', hc'⟩ := at_num (unhide HR') hlt
   obtain rfl : z = z' := by rw [hz] at hz'; injection hz'
   have hkn : (k : Int) < (n : Int) := by omega
   clear hz hz' hb hb'
   go_wp2_with fail
   go_quiet (fail)
   go_wp2_with fail
   go_roundw
   case rel => exact ⟨k + 1, _, by omega, by go_num, rfl⟩
   case measure => simp [intOf]; omega
  ·obtain rfl : k = n := by omega
   go_wp2_with fail
   go_ret
   exact ⟨rfl, nq, rfl⟩
set_option maxRecDepth 100000 in
set_option maxHeartbeats 1600000 in
theorem sameTold_keep (a b : Tol) (B : Nat) (w : World) (hd : a.d = b.d) (ha : a.ok w B) (hb : b.ok w B) (hB : B ≤ w.heap.size) :
    Calls Tryz.prog 20 #[a.val, b.val] w fun e w' => e = .returned (.bool true) ∧ Below w.heap.size w w' := by
 obtain ⟨⟨code, who, ⟨q0, q1, q2, q3, q4⟩, value, sent, frame, report⟩, sA, sn, sc, fA, fn, fc, rA, rn, rc⟩ := a
 obtain ⟨d', sA', sn', sc', fA', fn', fc', rA', rn', rc'⟩ := b
 dsimp only at hd
 subst hd
 obtain ⟨sl, sc1, sm, sr, fl, fc1, fm, fr, rl, rc1, rm, rr⟩ := ha
 obtain ⟨sl', sc1', sm', sr', fl', fc1', fm', fr', rl', rc1', rm', rr'⟩ := hb
 dsimp only at sl sc1 sm sr fl fc1 fm fr rl rc1 rm rr sl' sc1' sm' sr' fl' fc1' fm' fr' rl' rc1' rm' rr'
 obtain rfl : sn = sn' := by omega
 obtain rfl : fn = fn' := by omega
 obtain rfl : rn = rn' := by omega
 unfold Tol.val
 dsimp only
 obtain ⟨w1, hw1⟩ : ∃ w1, w1 = w.alloc (.cells #[.int .i64 code, .int .i64 who, .int .i64 q0, .int .i64 q1, .int .i64 q2, .int .i64 q3, .int .i64 q4, .int .i64 value, .slice sA sn sc, .slice fA fn fc, .slice rA rn rc] 57) := ⟨_, rfl⟩
 obtain ⟨wx, hwx⟩ : ∃ wx, wx = w1.alloc (.cells #[.int .i64 code, .int .i64 who, .int .i64 q0, .int .i64 q1, .int .i64 q2, .int .i64 q3, .int .i64 q4, .int .i64 value, .slice sA' sn sc', .slice fA' fn fc', .slice rA' rn rc'] 57) := ⟨_, rfl⟩
 have hs1 : w1.heap.size = w.heap.size + 1 := by rw [hw1]; simp
 have k0 : Blk wx w.heap.size 57 #[.int .i64 code, .int .i64 who, .int .i64 q0, .int .i64 q1, .int .i64 q2, .int .i64 q3, .int .i64 q4, .int .i64 value, .slice sA sn sc, .slice fA fn fc, .slice rA rn rc] := by rw [hwx, hw1]; exact (Blk.new w 57 _).alloc _
 have k1 : Blk wx (w.heap.size + 1) 57 #[.int .i64 code, .int .i64 who, .int .i64 q0, .int .i64 q1, .int .i64 q2, .int .i64 q3, .int .i64 q4, .int .i64 value, .slice sA' sn sc', .slice fA' fn fc', .slice rA' rn rc'] := by rw [hwx, ← hs1]; exact Blk.new w1 57 _
 have hb1 : Below w.heap.size w w1 := by rw [hw1]; exact (Below.refl _ _).alloc (Nat.le_refl _) _
 have hbx : Below w.heap.size w wx := by rw [hwx]; exact hb1.alloc hb1.size _
 have a0 : ∀ W, Below wx.heap.size wx W → W.cell? ⟨w.heap.size, 0, none⟩ = some (.int .i64 code) := fun W hW => (hW.cell (p := ⟨w.heap.size, 0, none⟩) (Blk.lt k0)).trans (Blk.cell k0 0)
 have a1 : ∀ W, Below wx.heap.size wx W → W.cell? ⟨w.heap.size, 1, none⟩ = some (.int .i64 who) := fun W hW => (hW.cell (p := ⟨w.heap.size, 1, none⟩) (Blk.lt k0)).trans (Blk.cell k0 1)
 have a2 : ∀ W, Below wx.heap.size wx W → W.cell? ⟨w.heap.size, 2, none⟩ = some (.int .i64 q0) := fun W hW => (hW.cell (p := ⟨w.heap.size, 2, none⟩) (Blk.lt k0)).trans (Blk.cell k0 2)
 have a3 : ∀ W, Below wx.heap.size wx W → W.cell? ⟨w.heap.size, 3, none⟩ = some (.int .i64 q1) := fun W hW => (hW.cell (p := ⟨w.heap.size, 3, none⟩) (Blk.lt k0)).trans (Blk.cell k0 3)
 have a4 : ∀ W, Below wx.heap.size wx W → W.cell? ⟨w.heap.size, 4, none⟩ = some (.int .i64 q2) := fun W hW => (hW.cell (p := ⟨w.heap.size, 4, none⟩) (Blk.lt k0)).trans (Blk.cell k0 4)
 have a5 : ∀ W, Below wx.heap.size wx W → W.cell? ⟨w.heap.size, 5, none⟩ = some (.int .i64 q3) := fun W hW => (hW.cell (p := ⟨w.heap.size, 5, none⟩) (Blk.lt k0)).trans (Blk.cell k0 5)
 have a6 : ∀ W, Below wx.heap.size wx W → W.cell? ⟨w.heap.size, 6, none⟩ = some (.int .i64 q4) := fun W hW => (hW.cell (p := ⟨w.heap.size, 6, none⟩) (Blk.lt k0)).trans (Blk.cell k0 6)
 have a7 : ∀ W, Below wx.heap.size wx W → W.cell? ⟨w.heap.size, 7, none⟩ = some (.int .i64 value) := fun W hW => (hW.cell (p := ⟨w.heap.size, 7, none⟩) (Blk.lt k0)).trans (Blk.cell k0 7)
 have a8 : ∀ W, Below wx.heap.size wx W → W.cell? ⟨w.heap.size, 8, none⟩ = some (.slice sA sn sc) := fun W hW => (hW.cell (p := ⟨w.heap.size, 8, none⟩) (Blk.lt k0)).trans (Blk.cell k0 8)
 have a9 : ∀ W, Below wx.heap.size wx W → W.cell? ⟨w.heap.size, 9, none⟩ = some (.slice fA fn fc) := fun W hW => (hW.cell (p := ⟨w.heap.size, 9, none⟩) (Blk.lt k0)).trans (Blk.cell k0 9)
 have a10 : ∀ W, Below wx.heap.size wx W → W.cell? ⟨w.heap.size, 10, none⟩ = some (.slice rA rn rc) := fun W hW => (hW.cell (p := ⟨w.heap.size, 10, none⟩) (Blk.lt k0)).trans (Blk.cell k0 10)
 have b0 : ∀ W, Below wx.heap.size wx W → W.cell? ⟨w.heap.size + 1, 0, none⟩ = some (.int .i64 code) := fun W hW => (hW.cell (p := ⟨w.heap.size + 1, 0, none⟩) (Blk.lt k1)).trans (Blk.cell k1 0)
 have b1 : ∀ W, Below wx.heap.size wx W → W.cell? ⟨w.heap.size + 1, 1, none⟩ = some (.int .i64 who) := fun W hW => (hW.cell (p := ⟨w.heap.size + 1, 1, none⟩) (Blk.lt k1)).trans (Blk.cell k1 1)
 have b2 : ∀ W, Below wx.heap.size wx W → W.cell? ⟨w.heap.size + 1, 2, none⟩ = some (.int .i64 q0) := fun W hW => (hW.cell (p := ⟨w.heap.size + 1, 2, none⟩) (Blk.lt k1)).trans (Blk.cell k1 2)
 have b3 : ∀ W, Below wx.heap.size wx W → W.cell? ⟨w.heap.size + 1, 3, none⟩ = some (.int .i64 q1) := fun W hW => (hW.cell (p := ⟨w.heap.size + 1, 3, none⟩) (Blk.lt k1)).trans (Blk.cell k1 3)
 have b4 : ∀ W, Below wx.heap.size wx W → W.cell? ⟨w.heap.size + 1, 4, none⟩ = some (.int .i64 q2) := fun W hW => (hW.cell (p := ⟨w.heap.size + 1, 4, none⟩) (Blk.lt k1)).trans (Blk.cell k1 4)
 have b5 : ∀ W, Below wx.heap.size wx W → W.cell? ⟨w.heap.size + 1, 5, none⟩ = some (.int .i64 q3) := fun W hW => (hW.cell (p := ⟨w.heap.size + 1, 5, none⟩) (Blk.lt k1)).trans (Blk.cell k1 5)
 have b6 : ∀ W, Below wx.heap.size wx W → W.cell? ⟨w.heap.size + 1, 6, none⟩ = some (.int .i64 q4) := fun W hW => (hW.cell (p := ⟨w.heap.size + 1, 6, none⟩) (Blk.lt k1)).trans (Blk.cell k1 6)
 have b7 : ∀ W, Below wx.heap.size wx W → W.cell? ⟨w.heap.size + 1, 7, none⟩ = some (.int .i64 value) := fun W hW => (hW.cell (p := ⟨w.heap.size + 1, 7, none⟩) (Blk.lt k1)).trans (Blk.cell k1 7)
 have b8 : ∀ W, Below wx.heap.size wx W → W.cell? ⟨w.heap.size + 1, 8, none⟩ = some (.slice sA' sn sc') := fun W hW => (hW.cell (p := ⟨w.heap.size + 1, 8, none⟩) (Blk.lt k1)).trans (Blk.cell k1 8)
 have b9 : ∀ W, Below wx.heap.size wx W → W.cell? ⟨w.heap.size + 1, 9, none⟩ = some (.slice fA' fn fc') := fun W hW => (hW.cell (p := ⟨w.heap.size + 1, 9, none⟩) (Blk.lt k1)).trans (Blk.cell k1 9)
 have b10 : ∀ W, Below wx.heap.size wx W → W.cell? ⟨w.heap.size + 1, 10, none⟩ = some (.slice rA' rn rc') := fun W hW => (hW.cell (p := ⟨w.heap.size + 1, 10, none⟩) (Blk.lt k1)).trans (Blk.cell k1 10)
 have HF := hide (fun W (hW : Below w.heap.size w W) => sameBytes_keep fA fA' fn fc fc' frame B W fl (by unfold maxLen at fm; omega) (fr.below (hW.mono hB)) (fr'.below (hW.mono hB)))
 have HRP := hide (fun W (hW : Below w.heap.size w W) => sameInts_keep rA rA' rn rc rc' report B W rl (by unfold maxLen at rm; omega) (rr.below (hW.mono hB)) (rr'.below (hW.mono hB)))
 have HSR := hide (sr.below (hbx.mono hB))
 have HSR' := hide (sr'.below (hbx.mono hB))
 have HSL := hide sl
 have hsn : sn ≤ 9223372036854775807 := by unfold maxLen at sm; omega
 have HBX := hide hbx
 have HWX : Hid (wx = _) := hide hwx
 rw [hw1] at hwx
 have HWX2 := hide hwx
 have hz0 : Below wx.heap.size wx wx := Below.refl _ _
 clear hb1 hbx hwx hs1 k0 k1 sl sr sc1 sm fl fr fc1 fm rl rr rc1 rm sl' sr' sc1' sm' fl' fr' fc1' fm' rl' rr' rc1' rm' HWX
 go_enter Tryz.func20, Tryz.ntmps20
 go_wp2_with fail
 rw [← unhide HWX2]
 refine (unhide HF wx (unhide HBX)).mono ?_
 rintro _ w2 ⟨rfl, nq, hw2⟩
 have hz2 : Below wx.heap.size wx w2 := by rw [← hw2]; exact below_drewN (Below.refl _ _) nq
 clear hw2 hz0
 go_wp2_with fail
 refine (unhide HRP w2 ((unhide HBX).trans (hz2.mono (unhide HBX).size))).mono ?_
 rintro _ w3 ⟨rfl, nq3, hw3⟩
 have hz3 : Below wx.heap.size wx w3 := by rw [← hw3]; exact below_drewN hz2 nq3
 clear hw3 hz2
 go_wp2_with fail
 go_loopw [5] (fun i wr => ∃ k : Nat, k ≤ sn ∧ i = .int .i64 k ∧ Below wx.heap.size wx wr) (fun i _ => sn - (intOf i).toNat)
 case atStart => exact ⟨0, Nat.zero_le _, rfl, hz3⟩
 case round =>
  obtain ⟨k, hk, rfl, hz4⟩ := hrel
  clear hz3
  by_cases hlt : k < sn
  ·obtain ⟨b, o, e, rfl, hbl, he, hc⟩ := at_row Envl.cells_len (by omega) ((unhide HSR).below (hz4.mono (Nat.le_trans hB (unhide HBX).size))) hlt (unhide HSL)
   obtain ⟨b', o', e', rfl, hbl', he', hc'⟩ := at_row Envl.cells_len (by omega) ((unhide HSR').below (hz4.mono (Nat.le_trans hB (unhide HBX).size))) hlt (unhide HSL)
   obtain rfl : e = e' := by rw [he] at he'; injection he'
   have c0 := hc 0 _ rfl
   have c1 := hc 1 _ rfl
   have c2 := hc 2 _ rfl
   have c3 := hc 3 _ rfl
   have d0 := hc' 0 _ rfl
   have d1 := hc' 1 _ rfl
   have d2 := hc' 2 _ rfl
   have d3 := hc' 3 _ rfl
   simp only [Nat.add_zero] at c0 d0
   have hkn : (k : Int) < (sn : Int) := by omega
   clear he he' hbl hbl' hc hc'
   go_wp2_with fail
   go_quiet (fail)
   go_wp2_with fail
   go_roundw
   case rel => exact ⟨k + 1, by omega, by go_num, below_drewN hz4 nq⟩
   case measure => simp [intOf]; omega
  ·obtain rfl : k = sn := by omega
   go_wp2_with fail
   go_ret
   exact ⟨rfl, (unhide HBX).trans (hz4.mono (unhide HBX).size)⟩
end
end Go.Proofs.YtbolcebmbpepdaaGreatDoor
