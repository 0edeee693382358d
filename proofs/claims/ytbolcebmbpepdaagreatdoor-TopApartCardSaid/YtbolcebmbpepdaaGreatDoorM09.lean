/- Contracts and plain facts, set together by program out of smaller texts. Conditions: none beyond what each theorem states. -/
import Derived.Test.YtbolcebmbpepdaaGreatDoorProg
import Derived.Deep.Onto
import Derived.Lib.SliceRun
import Derived.Test.YtbolcebmbpepdaaGreatDoorM02
import Derived.Test.YtbolcebmbpepdaaGreatDoorM01
import Derived.Test.YtbolcebmbpepdaaGreatDoorM03
import Derived.Test.YtbolcebmbpepdaaGreatDoorM04
import Derived.Test.YtbolcebmbpepdaaGreatDoorM05
namespace Go.Proofs.YtbolcebmbpepdaaGreatDoor
set_option linter.unusedVariables false
section
open Go.RowKit
theorem info_i64 : (Tryz.prog.info? 3).map (fun i => (i.zero, i.size, i.bytes)) = some (some (.int .i64 0), 1, 8) := by kernel_rfl
theorem zMe : ∃ i, Tryz.prog.info? 3 = some i ∧ i.zero = some (.int .i64 0) ∧ i.size = 1 ∧ i.bytes = 8 := by
 have h := info_i64
 cases hi : Tryz.prog.info? 3 with
 | none => rw [hi] at h; simp at h
 | some i => rw [hi] at h; simp at h; exact ⟨i, rfl, h.1, h.2.1, h.2.2⟩
theorem zPe (k : IntKind) (l : List Int) : ∀ u ∈ l.map (Value.int k), u.oneCell' = true := by
 intro u hu
 obtain ⟨z, _, rfl⟩ := List.mem_map.1 hu
 rfl
def IRow (w : World) (g : Nat) (os : List Int) (T : List Value) : Prop := Blk w g 3 (os.map (Value.int .i64) ++ T).toArray
section
variable {w : World} {g : Nat} {os : List Int} {T : List Value}
theorem IRow.cell (h : IRow w g os T) {k : Nat} {o : Int} (hk : os[k]? = some o) : w.cell? ⟨g, k, none⟩ = some (.int .i64 o) := by
 have hl := (List.getElem?_eq_some_iff.1 hk).1
 rw [Blk.cell h k, List.getElem?_toArray, List.getElem?_append_left (by simpa using hl), List.getElem?_map, hk]
 rfl
theorem IRow.frozen (h : IRow w g os T) (k : Nat) : w.frozen? ⟨g, k, none⟩ = false := Blk.frozen h k
theorem IRow.set_ (h : IRow w g os T) {k : Nat} (hk : k < os.length) (x : Int) : IRow (w.setCell ⟨g, k, none⟩ (.int .i64 x)) g (os.set k x) T := by
 have h1 := Blk.set_ h k (.int .i64 x)
 have e : (os.map (Value.int .i64) ++ T).toArray.setIfInBounds k (.int .i64 x) = ((os.set k x).map (Value.int .i64) ++ T).toArray := by
  rw [← Array.toList_inj]
  simp only [Array.toList_setIfInBounds]
  rw [List.set_append_left _ _ (by simpa using hk), List.map_set]
 rw [e] at h1
 exact h1
theorem IRow.own (h : IRow w g os T) {base n cap : Nat} (hb : base ≤ g) (hn : os.length = n) (hc : n + T.length = cap) (hm : cap ≤ maxLen) : w.ownsRow base 3 1 (.slice (some ⟨g, 0, none⟩) n cap) n (os.map (Value.int .i64)) :=
 ⟨by simp [hn], .inr ⟨g, cap, _, rfl, hb, h, by omega, hm, by simp [hn]; omega, by rw [List.take_append_of_le_length (by simp [hn])]; exact List.take_of_length_le (by simp [hn])⟩⟩
theorem IRow.reads (h : IRow w g os T) {n : Nat} (hn : os.length = n) : Reads w w.heap.size 1 (some ⟨g, 0, none⟩) n (os.map (Value.int .i64)) := by
 refine ⟨by simp [hn], fun _ => ⟨_, rfl, Blk.lt h, fun j u hj => ?_⟩⟩
 have e : (⟨g, 0, none⟩ : Addr).add j = ⟨g, j, none⟩ := by unfold Addr.add; split <;> simp_all
 rw [List.getElem?_map] at hj
 cases ho : os[j]? with
 | none => rw [ho] at hj; cases hj
 | some o => rw [ho] at hj; injection hj with hj; rw [e, h.cell ho, ← hj]
theorem own_irow {base n : Nat} {v : Value} (h : w.ownsRow base 3 1 v n (os.map (Value.int .i64))) (hn : 0 < n) :
    ∃ g cap T, v = .slice (some ⟨g, 0, none⟩) n cap ∧ base ≤ g ∧ g < w.heap.size ∧ n ≤ cap ∧ cap ≤ maxLen ∧ n + T.length = cap ∧ IRow w g os T := by
 rcases h.2 with ⟨_, h0⟩ | ⟨g, cap, cur, hv, hb, hh, hc, hm, hs, ht⟩
 ·omega
 ·refine ⟨g, cap, cur.toList.drop (n * 1), hv, hb, Blk.lt (t := 3) hh, hc, hm, by simp; omega, ?_⟩
  unfold IRow
  rw [← ht, List.take_append_drop]
  exact hh
end
end
section
open Go.RowKit
structure BkL where
 g : Nat
 gw : Nat
 gg : Nat
 gq : Nat
 cq : Nat
 T : List Value
def BkL.has (p : BkL) (k : Nat) : Prop := k = p.g ∨ k = p.gw ∨ k = p.gg ∨ k = p.gq
structure BkAt (w : World) (base nb : Nat) (p : BkL) (most ticks : Int) (s : BkS) : Prop where
 blk : Blk w p.g 75 #[.int .i64 most, .int .i64 ticks, .int .i64 s.round, .int .i64 s.reserve, .int .i64 s.all, .slice (some ⟨p.gw, 0, none⟩) nb nb, .slice (some ⟨p.gg, 0, none⟩) nb nb, .slice (some ⟨p.gq, 0, none⟩) nb p.cq]
 rw_ : IRow w p.gw s.wants []
 rg : IRow w p.gg s.granted []
 rq : IRow w p.gq s.quota p.T
 cap : nb + p.T.length = p.cq ∧ p.cq ≤ maxLen
 low : base ≤ p.g ∧ base ≤ p.gw ∧ base ≤ p.gg ∧ base ≤ p.gq
 ne : p.gw ≠ p.gg ∧ p.gw ≠ p.gq ∧ p.gg ≠ p.gq
section
variable {w w' : World} {base nb : Nat} {p : BkL} {most ticks : Int} {s : BkS}
theorem BkAt.ng (h : BkAt w base nb p most ticks s) : p.g ≠ p.gw ∧ p.g ≠ p.gg ∧ p.g ≠ p.gq :=
 ⟨Blk.ne_ h.blk h.rw_ (by decide), Blk.ne_ h.blk h.rg (by decide), Blk.ne_ h.blk h.rq (by decide)⟩
theorem BkAt.lt (h : BkAt w base nb p most ticks s) (k : Nat) (hk : p.has k) : k < w.heap.size := by
 rcases hk with rfl | rfl | rfl | rfl
 ·exact h.blk.lt
 ·exact Blk.lt h.rw_
 ·exact Blk.lt h.rg
 ·exact Blk.lt h.rq
theorem BkAt.only {D : Nat → Prop} (h : BkAt w base nb p most ticks s) (ho : Only D w w') (hn : ∀ k, p.has k → ¬ D k) : BkAt w' base nb p most ticks s :=
 ⟨h.blk.only ho (hn _ (.inl rfl)), Blk.only h.rw_ ho (hn _ (.inr (.inl rfl))), Blk.only h.rg ho (hn _ (.inr (.inr (.inl rfl)))), Blk.only h.rq ho (hn _ (.inr (.inr (.inr rfl)))), h.cap, h.low, h.ne⟩
theorem BkAt.calm (h : BkAt w base nb p most ticks s) (hb : Below w.heap.size w w') : BkAt w' base nb p most ticks s :=
 h.only (D := fun _ => False) (Only.of_below hb (fun x h1 h2 => by omega)) (fun _ _ e => e)
end
def zUh (w : World) (base nb : Nat) (p : BkL) (most ticks : Int) (s' : BkS) (e : Ending) (w' : World) : Prop :=
 e = .returned (.tuple #[]) ∧ BkAt w' base nb p most ticks s' ∧ Only p.has w w'
set_option maxRecDepth 100000 in
theorem zTb (base nb : Nat) (p : BkL) (most ticks : Int) (s : BkS) (w : World) (n : Int) (h : BkAt w base nb p most ticks s) (hr : 0 ≤ s.reserve ∧ s.reserve ≤ 1048576) (ha : 0 ≤ s.all ∧ s.all ≤ 1048576) (hn : 0 ≤ n ∧ n ≤ 1048576) :
    Calls Tryz.prog 62 #[.pointer (some ⟨p.g, 0, none⟩), .int .i64 n] w (zUh w base nb p most ticks (zIp s n)) := by
 have c3 := h.blk.cell 3
 have c4 := h.blk.cell 4
 have f3 := h.blk.frozen 3
 have f4 := h.blk.frozen 4
 have HX := hide h
 clear h
 go_enter Tryz.func62, Tryz.ntmps62
 go_wp2_with fail
 go_end0
 refine ⟨rfl, ⟨?_, ?_, ?_, ?_, (zAa HX).cap, (zAa HX).low, (zAa HX).ne⟩, ?_⟩
 ·exact ((zAa HX).blk.set_ 3 (.int .i64 (s.reserve + n))).set_ 4 (.int .i64 (s.all + n))
 ·exact Blk.far (Blk.far (zAa HX).rw_ (Ne.symm (zAa HX).ng.1) _) (Ne.symm (zAa HX).ng.1) _
 ·exact Blk.far (Blk.far (zAa HX).rg (Ne.symm (zAa HX).ng.2.1) _) (Ne.symm (zAa HX).ng.2.1) _
 ·exact Blk.far (Blk.far (zAa HX).rq (Ne.symm (zAa HX).ng.2.2) _) (Ne.symm (zAa HX).ng.2.2) _
 ·exact Only.setCell (Only.setCell (Only.refl _ _) (fun _ => .inl rfl) _) (fun _ => .inl rfl) _
set_option maxRecDepth 100000 in
set_option maxHeartbeats 1000000 in
theorem zWd (base nb : Nat) (p : BkL) (most ticks : Int) (s : BkS) (w : World) (who : Nat) (n : Int) (h : BkAt w base nb p most ticks s) (hw : who < nb) (hl : s.wants.length = nb) (hnb : nb ≤ 8) :
    Calls Tryz.prog 87 #[.pointer (some ⟨p.g, 0, none⟩), .int .i64 who, .int .i64 n] w (zUh w base nb p most ticks (zEs s who n)) := by
 have c5 := h.blk.cell 5
 have d0 := IRow.cell h.rw_ (zBf hl hw)
 have f0 := IRow.frozen h.rw_ who
 have hwn : (who : Int) < (nb : Int) := by omega
 have HX := hide h
 have HF := hide (show zEs s who n = { s with wants := s.wants.set who (max (s.wants.getD who 0) n) } from rfl)
 obtain ⟨x, hx⟩ : ∃ x, x = s.wants.getD who 0 := ⟨_, rfl⟩
 rw [← hx] at d0 HF
 have HL := hide (show who < s.wants.length by rw [hl]; exact hw)
 clear h hl hx
 have key : ∀ (nq : Nat) (z : Int), z = max x n → zUh w base nb p most ticks (zEs s who n) (.returned (.tuple #[])) ((w.drewN nq).setCell ⟨p.gw, who, none⟩ (.int .i64 z)) := fun nq z hz => by
  rw [zAa HF, ← hz]
  have hx := (zAa HX).only (D := fun _ => False) ((Only.refl _ w).drewN nq) (fun _ _ e => e)
  refine ⟨rfl, ⟨hx.blk.far hx.ng.1 _, hx.rw_.set_ (zAa HL) z, Blk.far hx.rg (Ne.symm hx.ne.1) _, Blk.far hx.rq (Ne.symm hx.ne.2.1) _, hx.cap, hx.low, hx.ne⟩, ?_⟩
  exact Only.setCell ((Only.refl _ w).drewN nq) (fun _ => .inr (.inl rfl)) _
 have KEY := hide key
 clear key
 rcases (show x < n ∨ n ≤ x by omega) with hxn | hxn
 all_goals
  go_enter Tryz.func87, Tryz.ntmps87
  go_wp2_with fail
  refine zCn [] [0, 1, 2, 3, 4, 5, 6, 7, 8, 9, 10, 11, 12] [] [13] 14 [15] (by kernel_rfl) (by kernel_rfl) (by intro c a d v w h; cases d <;> exact h) ?_
  simp only [zAb, List.map_cons, List.map_nil, List.getD_cons_zero, List.getD_cons_succ]
  refine wpQuiet_nil ?_
  repeat (go_big_quiet_step (fail))
  refine wpQuiet_nil (wpQuiet_nil ?_)
  rintro _ ⟨nq, rfl⟩
  simp only [wpAl]
  go_wp2_with fail
  refine ⟨⟨nq, rfl⟩, ?_⟩
  go_wp2_with fail
  go_end0
  exact zAa KEY nq _ (by omega)
end
section
open Go.RowKit
def yCe (base : Nat) (r : List Int × Int) (e : Ending) (w w' : World) : Prop :=
 ∃ v : Value, e = .returned (.tuple #[v, .int .i64 r.2]) ∧ w'.ownsRow base 3 1 v r.1.length (r.1.map (.int .i64)) ∧ Below w.heap.size w w'
def boxW (w : World) (total : Int) (A : Option Addr) (n c : Nat) : World := (w.alloc (.cells #[.int .i64 total] 3)).alloc (.cells #[.slice A n c] 22)
theorem zHd (w : World) (total : Int) (A : Option Addr) (n c : Nat) : (boxW w total A n c).heap.size = w.heap.size + 2 := by simp [boxW]
theorem zLz (w : World) (total : Int) (A : Option Addr) (n c : Nat) : Below w.heap.size w (boxW w total A n c) :=
 ((Below.refl _ w).alloc (Nat.le_refl _) _).alloc (by simp) _
theorem zQn {w : World} {total : Int} {A : Option Addr} {n c : Nat} {W : World} (h : Below (w.heap.size + 2) (boxW w total A n c) W) : W.cell? ⟨w.heap.size, 0, none⟩ = some (.int .i64 total) := by
 rw [h.cell (p := ⟨w.heap.size, 0, none⟩) (by show w.heap.size < _; omega)]
 exact (Blk.alloc (Blk.new w _ _) _).cell 0
theorem zQg {w : World} {total : Int} {A : Option Addr} {n c : Nat} {W : World} (h : Below (w.heap.size + 2) (boxW w total A n c) W) : W.cell? ⟨w.heap.size + 1, 0, none⟩ = some (.slice A n c) := by
 rw [h.cell (p := ⟨w.heap.size + 1, 0, none⟩) (by show w.heap.size + 1 < _; omega)]
 have := (Blk.new (w.alloc (.cells #[.int .i64 total] 3)) 22 #[.slice A n c]).cell 0
 simp [boxW] at this ⊢
theorem zJq {w : World} {total : Int} {A : Option Addr} {n c : Nat} {W : World} (h : Below (w.heap.size + 2) (boxW w total A n c) W) : Below w.heap.size w W :=
 (zLz w total A n c).trans (h.mono (by omega))
theorem zQm (total : Int) (ws : List Int) (n : Nat) (hl : ws.length = n) (h : n ≤ 16) (hb : (total :: ws).all zCq = false) : zHn total ws = ([], 2) := by
 rw [zHn, if_neg (by omega)]
 have : (zCq total && ws.all zCq) = false := hb
 rw [this]; rfl
theorem zXu (total : Int) (ws : List Int) (n : Nat) (hl : ws.length = n) (h : n ≤ 16) (hb : (total :: ws).all zCq = true) : zHn total ws = (gives total ws, 0) := by
 rw [zHn, if_neg (by omega)]
 have : (zCq total && ws.all zCq) = true := hb
 rw [this]; rfl
set_option maxRecDepth 100000 in
theorem yCr (A : Option Addr) (n c : Nat) (ws : List Int) (total : Int) (B : Nat) (w : World) (hl : ws.length = n) (hnc : n ≤ c) (hm : c ≤ maxLen) (ht : -9223372036854775808 ≤ total ∧ total ≤ 9223372036854775807) (hr : Reads w B 1 A n (ws.map (.int .i64))) (hB : B ≤ w.heap.size) :
    Calls Tryz.prog 110 #[.int .i64 total, .slice A n c] w fun e w' => yCe w.heap.size (zHn total ws) e w w' := by
 obtain ⟨i0, hi, hz0, hz1, hz2⟩ : ∃ i, Tryz.prog.info? 3 = some i ∧ i.zero = some (.int .i64 0) ∧ i.size = 1 ∧ i.bytes = 8 := by
  have h := yDg
  cases hi : Tryz.prog.info? 3 with
  | none => rw [hi] at h; simp at h
  | some i => rw [hi] at h; simp at h; exact ⟨i, rfl, h.1, h.2.1, h.2.2⟩
 have HR := hide hr
 have HL := hide hl
 clear hr hl
 by_cases h16 : 16 < n
 ·have HF := hide (show zHn total ws = ([], 1) by rw [zHn, zAa HL, if_pos h16])
  go_enter Tryz.func110, Tryz.ntmps110
  go_wp2
  go_ret2
  rw [zAa HF]
  exact ⟨_, rfl, World.ownsRow_nil _ _ _ _, zLz w total A n c⟩
 ·have h16' : n ≤ 16 := by omega
  clear h16
  have HT := hide ht
  go_enter Tryz.func110, Tryz.ntmps110
  have hRB := ((zAa HR).more hB).below (zLz w total A n c)
  have hlit := World.ownsRow_lit (base := w.heap.size + 2) (size := 1) (e := 3) (boxW w total A n c) #[.int .i64 total] 1 (by rw [zHd]; exact Nat.le_refl _) (by unfold maxLen; omega) rfl
  have hRL := hRB.alloc (by rw [zHd]; omega) (.cells #[.int .i64 total] 3)
  rw [zHd] at hlit
  have HBX := hide (And.intro hRL hlit)
  clear hRB hlit hRL ht
  have hmx : (1 + n) * 8 ≤ 140737488355328 := by omega
  have hmx2 : 1 + n ≤ maxLen := by unfold maxLen; omega
  go_wp2_with (first
   | (at_builtin; (refine zAr _ rfl (.tmp 18) (.tmp 19) _ rfl (w.heap.size + 2) 3 i0 _ 1 8 Tryz.underlying22 hi hz0 hz1 hz2 rfl (by omega) _ 1 _ rfl (zAa HBX).2 w.heap.size A n c (ws.map (.int .i64)) rfl (zAa HBX).1 (by intro u hu; obtain ⟨z, _, rfl⟩ := List.mem_map.1 hu; rfl) hmx2 hmx (by simp) ?_); intro v w1 hown hg hv; obtain ⟨A1, c1, rfl, hc1⟩ := zAf hown))
  have hbw : Below (w.heap.size + 2) (boxW w total A n c) w1 := by
   refine ((Below.refl _ _).alloc (by rw [zHd]; exact Nat.le_refl _) _).grown hg (by simp [boxW]) ?_
   exact fun k hk => ((zAa HBX).2.lt k hk).1
  have HR1 := hide (show Reads w1 w1.heap.size 1 A1 (1 + n) ((total :: ws).map (.int .i64)) from Reads.of_own hown)
  have HB1 := hide hbw
  have hsz1 := hbw.size
  rw [zHd] at hsz1
  clear hg hv hown hbw HBX
  go_loop [22] (fun i => ∃ (k : Nat), k ≤ 1 + n ∧ i = .int .i64 k ∧ Hid (((total :: ws).drop k).all zCq = (total :: ws).all zCq)) (fun i => 1 + n - (intOf i).toNat)
  case atStart => exact ⟨0, Nat.zero_le _, rfl, rfl⟩
  case round =>
   obtain ⟨k, hk, rfl, HI⟩ := hrel
   by_cases hlt : k < 1 + n
   ·obtain ⟨b, o, z, rfl, _, hz, hc⟩ := zDd (zAa HR1) hlt
    have HI2 := hide (show (zCq z && ((total :: ws).drop (k + 1)).all zCq) = (total :: ws).all zCq by
     have h := zAa HI
     rw [zCb _ k z hz, List.all_cons] at h
     exact h)
    clear HI hz
    by_cases hz0 : z < 0
    ·have HF := hide (zQm total ws n (zAa HL) h16' (by rw [← zAa HI2]; simp [zCq]; omega))
     go_wp2_with fail
     go_ret2
     rw [zAa HF]
     exact ⟨_, rfl, World.ownsRow_nil _ _ _ _, zJq (zAa HB1)⟩
    ·by_cases hz1 : 1048576 < z
     ·have HF := hide (zQm total ws n (zAa HL) h16' (by rw [← zAa HI2]; simp [zCq]; omega))
      have hz0' : 0 ≤ z := by omega
      clear hz0
      go_wp2_with fail
      go_ret2
      rw [zAa HF]
      exact ⟨_, rfl, World.ownsRow_nil _ _ _ _, zJq (zAa HB1)⟩
     ·have HI3 := hide (show ((total :: ws).drop (k + 1)).all zCq = (total :: ws).all zCq by
       rw [← zAa HI2]
       have : zCq z = true := by simp [zCq]; omega
       rw [this, Bool.true_and])
      have hz0' : 0 ≤ z := by omega
      have hz1' : z ≤ 1048576 := by omega
      clear hz0 hz1 HI2
      go_wp2_with fail
      go_round
      case rel => exact ⟨k + 1, by omega, by go_num, zAa HI3⟩
      case measure => simp [intOf]; omega
   ·obtain rfl : k = 1 + n := by omega
    have hall : (total :: ws).all zCq = true := by
     have h := zAa HI
     rw [List.drop_of_length_le (by rw [List.length_cons, zAa HL]; omega)] at h
     exact h.symm
    have HF := hide (zXu total ws n (zAa HL) h16' hall)
    have hal := (zOv (total :: ws)).1 hall
    have ht0 := (hal total (by simp)).1
    have ht1 := (hal total (by simp)).2
    have HW := hide (fun z (hz : z ∈ ws) => hal z (by simp [hz]))
    have HRW := hide (((zAa HR).more hB).below (zJq (zAa HB1)))
    have ct := zQn (zAa HB1)
    have cw := zQg (zAa HB1)
    clear hal hall HI HR1
    have HC := hide (fun (lv : Int) (q : Nat) (h0 : 0 ≤ lv) (h1 : lv ≤ 1048577) => zSf A n c ws lv w.heap.size (w1.drewN q) (zAa HL) h16' (zAa HW) h0 h1 ((zAa HRW).drewN q))
    have HS := hide (show Calls Tryz.prog 129 #[.int .i64 1048577, .func (.func 130) #[] #[.pointer (some ⟨w.heap.size + 1, 0, none⟩), .pointer (some ⟨w.heap.size, 0, none⟩)]] w1 _ from
     zZj 130 #[.pointer (some ⟨w.heap.size + 1, 0, none⟩), .pointer (some ⟨w.heap.size, 0, none⟩)] (fun lv => decide (total < zAu ws lv)) 1048577 (by omega) w1 zZv
      fun k q hk => zUe A n c ws total k w.heap.size (w1.drewN q) _ _ (zAa HL) h16' (zAa HW) (by omega) (by omega) ((zAa HRW).drewN q) cw ct)
    go_wp2_with fail
    refine (zAa HS).mono ?_
    rintro e w2 ⟨i, rfl, hiN, hia, hib, m, rfl⟩
    have hi0 : i ≠ 0 := by
     rintro rfl
     rcases hib with h | h
     ·omega
     ·simp only [decide_eq_true_eq] at h
      rw [show ((0 : Nat) : Int) = 0 from rfl, zOg ws (fun z hz => (zAa HW z hz).1)] at h
      omega
    obtain ⟨lv, rfl⟩ : ∃ lv, i = lv + 1 := ⟨i - 1, by omega⟩
    have e1 : (((lv + 1 : Nat) : Int) - 1) = lv := by omega
    rw [e1] at hia
    have hle : zAu ws lv ≤ total := by
     rcases hia with h | h
     ·omega
     ·simpa using h
    have hlev : zLj total ws lv := by
     refine ⟨by omega, hle, ?_⟩
     rcases hib with h | h
     ·right; intro z hz; have := (zAa HW z hz).2; omega
     ·left; simpa using h
    have HG0 := zYf total ws ht0 (zAa HW) lv hlev
    have hlv : lv ≤ 1048576 := by omega
    have hlb := (zSx ws (zAa HW) lv (by omega)).1
    have HLV := hide (Eq.refl (zAu ws lv))
    obtain ⟨L, hL⟩ : ∃ L, zAu ws lv = L := ⟨_, rfl⟩
    have HC2 := hide (show ∀ q, Calls Tryz.prog 131 #[.slice A n c, .int .i64 lv] (w1.drewN q) fun e w' => e = .returned (.int .i64 L) ∧ w1.drewN q = w' from
     fun q => by rw [← hL]; exact zAa HC lv q (by omega) (by omega))
    rw [hL] at HG0 hle hlb
    have HG := hide HG0
    clear HG0 HC HS hia hib hlev hL HLV hi0 hiN
    go_wp2_with fail
    go_quiet ((go_at_call 131; exact zRq (zAa HC2 _)))
    have HB2 := hide (show Below (w.heap.size + 2) (boxW w total A n c) ((w1.drewN m).drewN nq) from below_drewN (below_drewN (zAa HB1) _) _)
    have hsz2 : w.heap.size + 2 ≤ ((w1.drewN m).drewN nq).heap.size := hsz1
    obtain ⟨w3, hw3⟩ : ∃ w3, w3 = (w1.drewN m).drewN nq := ⟨_, rfl⟩
    rw [← hw3] at HB2 hsz2
    have ct3 := zQn (zAa HB2)
    have cw3 := zQg (zAa HB2)
    rw [← hw3]
    have HR0 := hide ((zAa HR).more hB)
    clear HR hw3 HB1 HRW HC2 ct cw hsz1
    go_wp2_with fail
    go_loopw [9, 10, 43] (fun x v i wr => ∃ (k : Nat) (r : Int) (gs : List Int), k ≤ n ∧ i = .int .i64 k ∧ x = .int .i64 r ∧ 0 ≤ r ∧ r ≤ 1048576 ∧ wr.ownsRow (w.heap.size + 2) 3 1 v k (gs.map (.int .i64)) ∧ Below (w.heap.size + 2) (boxW w total A n c) wr ∧ Hid (gs ++ zDa lv r (ws.drop k) = gives total ws)) (fun _ _ i _ => n - (intOf i).toNat)
    case atStart => exact ⟨0, total - L, [], Nat.zero_le _, rfl, rfl, by omega, by omega, World.ownsRow_nil _ _ _ _, zAa HB2, zAa HG⟩
    case round =>
     obtain ⟨k, r, gs, hk, rfl, rfl, hr0, hr1, hown, hb, HI⟩ := hrel
     by_cases hlt : k < n
     ·obtain ⟨b, o, z, rfl, _, hz, hc⟩ := zDd ((zAa HR0).below (zJq hb)) hlt
      have hzb := zAa HW z (List.mem_of_getElem? hz)
      have hzz0 := hzb.1
      have hzz1 := hzb.2
      have HI2 := hide (show gs ++ zDa lv r (z :: ws.drop (k + 1)) = gives total ws by
       have h := zAa HI
       rwa [zCb ws k z hz] at h)
      have hsz := hb.size
      rw [zHd] at hsz
      clear HI hz hzb
      by_cases hzl : (lv : Int) < z
      ·by_cases hrp : 0 < r
       ·have HI3 := hide (show (gs ++ [(lv : Int) + 1]) ++ zDa lv (r - 1) (ws.drop (k + 1)) = gives total ws by
         have h := zAa HI2
         rw [zDa, if_pos ⟨hzl, hrp⟩] at h
         simpa using h)
        clear HI2
        go_wp2_with (first
         | (at_builtin; (refine zAl _ rfl (.tmp 61) (.tmp 63) _ rfl (w.heap.size + 2) 3 i0 _ 1 8 Tryz.underlying22 hi hz0 hz1 hz2 rfl (by omega) (by omega) _ _ _ hown rfl _ 1 _ rfl rfl rfl (by simp [Value.oneCell']) (by omega) (by omega) ?_); intro g cap w4 hg hown1 hbel1 _ _))
        go_roundw
        case rel => exact ⟨k + 1, r - 1, gs ++ [(lv : Int) + 1], by omega, by go_num, rfl, by omega, by omega, by rw [List.map_append]; exact hown1, hbel1 _ _ (Nat.le_refl _) hb, zAa HI3⟩
        case measure => simp [intOf]; omega
       ·have HI3 := hide (show (gs ++ [(lv : Int)]) ++ zDa lv r (ws.drop (k + 1)) = gives total ws by
         have h := zAa HI2
         rw [zDa, if_neg (by omega), Int.min_eq_right (by omega)] at h
         simpa using h)
        clear HI2
        go_wp2_with (first
         | (at_builtin; (refine zAl _ rfl (.tmp 61) (.tmp 63) _ rfl (w.heap.size + 2) 3 i0 _ 1 8 Tryz.underlying22 hi hz0 hz1 hz2 rfl (by omega) (by omega) _ _ _ hown rfl _ 1 _ rfl rfl rfl (by simp [Value.oneCell']) (by omega) (by omega) ?_); intro g cap w4 hg hown1 hbel1 _ _))
        go_roundw
        case rel => exact ⟨k + 1, r, gs ++ [(lv : Int)], by omega, by go_num, rfl, by omega, by omega, by rw [List.map_append]; exact hown1, hbel1 _ _ (Nat.le_refl _) hb, zAa HI3⟩
        case measure => simp [intOf]; omega
      ·have HI3 := hide (show (gs ++ [z]) ++ zDa lv r (ws.drop (k + 1)) = gives total ws by
        have h := zAa HI2
        rw [zDa, if_neg (by omega), Int.min_eq_left (by omega)] at h
        simpa using h)
       clear HI2
       go_wp2_with (first
        | (at_builtin; (refine zAl _ rfl (.tmp 61) (.tmp 63) _ rfl (w.heap.size + 2) 3 i0 _ 1 8 Tryz.underlying22 hi hz0 hz1 hz2 rfl (by omega) (by omega) _ _ _ hown rfl _ 1 _ rfl rfl rfl (by simp [Value.oneCell']) (by omega) (by omega) ?_); intro g cap w4 hg hown1 hbel1 _ _))
       go_roundw
       case rel => exact ⟨k + 1, r, gs ++ [z], by omega, by go_num, rfl, by omega, by omega, by rw [List.map_append]; exact hown1, hbel1 _ _ (Nat.le_refl _) hb, zAa HI3⟩
       case measure => simp [intOf]; omega
     ·obtain rfl : k = n := by omega
      have hgs : gs = gives total ws := by
       have h := zAa HI
       rw [List.drop_of_length_le (by rw [zAa HL]; exact Nat.le_refl _), zDa, List.append_nil] at h
       exact h
      have HO := hide hown
      have HBB := hide hb
      clear HI hown hb
      go_wp2_with fail
      go_ret2
      rw [zAa HF]
      have hlen : (gives total ws).length = k := by unfold gives; rw [zLy, zAa HL]
      refine ⟨_, rfl, ?_, zJq (zAa HBB)⟩
      dsimp only
      rw [hlen, ← hgs]
      exact (zAa HO).mono (by omega)
end
section
open Go.RowKit
theorem zNh (A : Option Addr) (n c : Nat) (l : List Int) (B : Nat) (w : World) (hl : l.length = n) (hm : n * 8 ≤ 140737488355328) (hr : Reads w B 1 A n (l.map (.int .i64))) (hB : B ≤ w.heap.size) :
    Calls Tryz.prog 53 #[.slice A n c] w fun e w' => ∃ v, e = .returned v ∧ w'.ownsRow w.heap.size 3 1 v n (l.map (.int .i64)) ∧ Below w.heap.size w w' := by
 obtain ⟨i0, hi, hz0, hz1, hz2⟩ := zMe
 have q22 : ∀ (w : World) (a : Option Addr) (n c n' c' : Nat), (binOp .eql 22 (.slice a n c) (.slice none n' c')).run Tryz.prog w = .ok (.bool a.isNone) w := fun w a n c n' c' => Lib.run_eql_slice_nil w _ _ a n c n' c' Tryz.underlying22
 have HR := hide (hr.more hB)
 have HL := hide hl
 clear hr hl
 cases A with
 | none =>
  obtain rfl : n = 0 := by
   rcases Nat.eq_zero_or_pos n with h | h
   ·exact h
   ·obtain ⟨a, ha, _⟩ := (zAa HR).2 h; cases ha
  obtain rfl : l = [] := List.eq_nil_of_length_eq_zero (zAa HL)
  go_enter Tryz.func53, Tryz.ntmps53
  go_wp2_with fail
  go_ret
  exact ⟨_, rfl, World.ownsRow_nil _ _ _ _, Below.refl _ _⟩
 | some a =>
  have hlit := World.ownsRow_lit (base := w.heap.size) (size := 1) (e := 3) w #[] 0 (Nat.le_refl _) (by unfold maxLen; omega) rfl
  have HLIT := hide hlit
  have HR1 := hide ((zAa HR).alloc (Nat.le_refl _) (.cells #[] 3))
  have h1 : 0 + n ≤ maxLen := by unfold maxLen; omega
  have h2 : (0 + n) * 8 ≤ 140737488355328 := by omega
  have HONE := hide (zPe .i64 l)
  clear hlit hB hm
  go_enter Tryz.func53, Tryz.ntmps53
  go_wp2_with (first
   | (at_builtin; (refine zAr _ rfl (.tmp 5) (.tmp 6) _ rfl w.heap.size 3 i0 _ 1 8 Tryz.underlying22 hi hz0 hz1 hz2 rfl (by omega) _ 0 _ rfl (zAa HLIT) w.heap.size (some a) n c (l.map (.int .i64)) rfl (zAa HR1) (zAa HONE) h1 h2 (by simp) ?_); intro v w1 hown hg hv))
  go_ret
  exact ⟨v, rfl, by simpa using hown, ((Below.refl _ w).alloc (Nat.le_refl _) _).grown hg (by simp) fun k hk => ((zAa HLIT).lt k hk).1⟩
end
end Go.Proofs.YtbolcebmbpepdaaGreatDoor
