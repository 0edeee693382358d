/- Contracts and plain facts, set together by program out of smaller texts. Conditions: none beyond what each theorem states. -/
import Derived.Test.YtbolcebmbpepdaaGreatDoorM31
import Derived.Test.YtbolcebmbpepdaaGreatDoorM08
import Derived.Test.YtbolcebmbpepdaaGreatDoorM15
import Derived.Test.YtbolcebmbpepdaaGreatDoorM32
import Derived.Test.YtbolcebmbpepdaaGreatDoorM10
import Derived.Test.YtbolcebmbpepdaaGreatDoorM27
namespace Go.Proofs.YtbolcebmbpepdaaGreatDoor
set_option linter.unusedVariables false
section
open Go.RowKit
theorem zRr (base g b m : Nat) (v : Value) (l : List Po) (top : Int → Int → Int) (w : World) (k : Nat) (p : Po) (h : OfAt w base g b v l m top) (hp : l[k]? = some p) :
    Calls Tryz.prog 85 #[.pointer (some ⟨g, 0, none⟩), .int .i64 k] w fun e w' => e = .returned (.int .i64 p.d.fr) ∧ w = w' := by
 obtain ⟨A, c, rfl, _⟩ := zAf h.own
 have c0 := h.c0
 have h2 := (List.getElem?_eq_some_iff.1 hp).1
 obtain ⟨bl, o, x, rfl, _, hx, hc⟩ := zCf Po.cells_len (by omega) (Reads.of_own h.own) h2 rfl
 obtain rfl := Option.some.inj (hp.symm.trans hx)
 have x0 := hc 0 _ rfl
 simp only [Nat.add_zero] at x0
 have h3 : (k : Int) < (l.length : Int) := by omega
 obtain ⟨n, hn⟩ : ∃ n, n = l.length := ⟨_, rfl⟩
 rw [← hn] at c0 h3 h2
 clear h hc hx hn hp
 go_enter Tryz.func85, Tryz.ntmps85
 go_wp2_with fail
 go_ret
 exact ⟨rfl, rfl⟩
set_option maxRecDepth 100000 in
theorem zTf (base g b m : Nat) (v : Value) (l : List Po) (top : Int → Int → Int) (w : World) (k : Nat) (p : Po) (h : OfAt w base g b v l m top) (hp : l[k]? = some p) :
    Calls Tryz.prog 91 #[.pointer (some ⟨g, 0, none⟩), .int .i64 k] w fun e w' => e = .returned (.bool (decide ((k : Int) < top p.d.fr p.d.to_))) ∧ Below w.heap.size w w' := by
 obtain ⟨A, c, rfl, _⟩ := zAf h.own
 have h2 := (List.getElem?_eq_some_iff.1 hp).1
 obtain ⟨bl, o, x, rfl, _, hx, hc⟩ := zCf Po.cells_len (by omega) (Reads.of_own h.own) h2 rfl
 obtain rfl := Option.some.inj (hp.symm.trans hx)
 have hw := h.wf p (List.mem_of_getElem? hp)
 obtain ⟨⟨fr, to2, data⟩, A2, n2, c2⟩ := p
 have d0 := hc 0 _ rfl
 have d1 := hc 1 _ rfl
 have d2 := hc 2 _ rfl
 simp only [Nat.add_zero] at d0
 dsimp only at d0 d1 d2 hw
 have e0 := h.c0
 have h3 : (k : Int) < (l.length : Int) := by omega
 obtain ⟨n, hn⟩ : ∃ n, n = l.length := ⟨_, rfl⟩
 rw [← hn] at e0 h3 h2
 obtain ⟨wx, hwx⟩ : ∃ wx, wx = w.alloc (.cells #[.int .i64 fr, .int .i64 to2, .slice A2 n2 c2] 187) := ⟨_, rfl⟩
 have hbx : Below w.heap.size w wx := by rw [hwx]; exact (Below.refl _ _).alloc (Nat.le_refl _) _
 have kx : Blk wx w.heap.size 187 #[.int .i64 fr, .int .i64 to2, .slice A2 n2 c2] := by rw [hwx]; exact Blk.new w 187 _
 have hx1 := h.calm hbx
 have hlk := fun n : Nat => (hx1.map.only (D := fun _ => False) ((Only.refl _ wx).drewN n) (fun e => e)).look fr to2 hw.1 hw.2
 unfold wayV at hlk
 have HX := hide hx1
 have HKX := hide kx
 have HBX := hide hbx
 have HWX := hide hwx
 clear h hc hx hn hp hx1 kx hbx hwx hw
 go_enter Tryz.func91, Tryz.ntmps91
 go_upto_region 2 with fail
 rw [← zAa HWX]
 have c1 := (zAa HX).c1
 have z0 := (zAa HKX).cell 0
 have z1 := (zAa HKX).cell 1
 go_quiet (fail)
 have HB := hide (below_drewN (zAa HBX) nq)
 generalize wx.drewN nq = w2 at HB ⊢
 go_wp2_with fail
 go_ret
 exact ⟨rfl, zAa HB⟩
def tol0 (code who : Int) : Tol := ⟨zAy code who, none, 0, 0, none, 0, 0, none, 0, 0⟩
theorem zGy (code who : Int) (w : World) (B : Nat) : TolOwn (tol0 code who) w B := ⟨World.ownsRow_nil _ _ _ _, World.ownsRow_nil _ _ _ _, World.ownsRow_nil _ _ _ _⟩
theorem zCi (e : Int) (w : World) : Calls Tryz.prog 66 #[.int .i64 e] w fun x w' => x = .returned (tol0 e 0).val ∧ Below w.heap.size w w' := by
 unfold tol0 zAy Tol.val Stk.none
 dsimp only
 go_enter Tryz.func66, Tryz.ntmps66
 go_wp2_with fail
 have kx := Blk.new w 57 #[.int .i64 e, .int .i64 0, .int .i64 0, .int .i64 0, .int .i64 0, .int .i64 0, .int .i64 0, .int .i64 0, .slice none 0 0, .slice none 0 0, .slice none 0 0]
 have d0 := kx.cell 0
 have d1 := kx.cell 1
 have d2 := kx.cell 2
 have d3 := kx.cell 3
 have d4 := kx.cell 4
 have d5 := kx.cell 5
 have d6 := kx.cell 6
 have d7 := kx.cell 7
 have d8 := kx.cell 8
 have d9 := kx.cell 9
 have d10 := kx.cell 10
 refine bodyPost_ret (v := .agg #[.int .i64 e, .int .i64 0, .int .i64 0, .int .i64 0, .int .i64 0, .int .i64 0, .int .i64 0, .int .i64 0, .slice none 0 0, .slice none 0 0, .slice none 0 0]) (by simp [results, Tryz.results66, go_sem, d0, d1, d2, d3, d4, d5, d6, d7, d8, d9, d10]) rfl ⟨rfl, (Below.refl _ _).alloc (Nat.le_refl _) _⟩
section
variable {w : World} {c : Cfg} {y : Lay} {S : WS} {K base : Nat} {ow : Nat → Tag}
set_option maxRecDepth 100000 in
set_option maxHeartbeats 1000000 in
theorem zOa (h : PW w c y S K base ow) (id : Int) (hwf : (Lit.int .i64 id).wf = true) (hlen : S.lts.length ≤ 1000000) :
    Calls Tryz.prog 65 #[.pointer (some ⟨y.hb, 0, none⟩), .int .i64 id] w fun e w' => e = .returned (.int .i64 (dueW S id)) ∧ Below w.heap.size w w' := by
 have hcon := h.pc .con
 obtain ⟨⟨v, ps, m, hof, _, hps, _, _⟩, _, _⟩ := h.pc .off
 obtain ⟨⟨m2, hls, _⟩, _⟩ := h.pc .lst
 have hpl : ps.length = S.lts.length := by rw [← hps, List.length_map]
 have HT := hide (zHt base y.og y.ob m v ps S.top w id hof (by omega))
 rw [hps] at HT
 have c7 := hcon.blk.cell 7
 have HC := hide hcon.blk
 by_cases h1 : toP S.lts id < 0
 ·have HD := hide (show dueW S id = 6 from if_pos h1)
  have hd1 : decide (toP S.lts id < 0) = true := decide_eq_true h1
  generalize toP S.lts id = T at HT hd1
  clear h hcon hof hps hls hpl h1
  go_enter Tryz.func65, Tryz.ntmps65
  go_upto_region 1 with fail
  go_wp2_with fail
  refine (zAa HT).mono ?_
  rintro _ _ ⟨rfl, rfl⟩
  go_wp2_with fail
  go_ret
  exact ⟨zBn (zAa HD).symm, Below.refl _ _⟩
 ·have hid : 0 ≤ id := by
   refine Int.not_lt.1 fun e => h1 ?_
   unfold toP; rw [if_pos e]; decide
  obtain ⟨k, rfl⟩ := Int.eq_ofNat_of_zero_le hid
  have hkp : ∃ p, ps[k]? = some p := by
   cases hk : ps[k]? with
   | some p => exact ⟨p, rfl⟩
   | none =>
    exfalso
    apply h1
    unfold toP
    rw [if_neg (by omega), Int.toNat_natCast, ← hps, List.getElem?_map, hk]
    decide
  obtain ⟨p, hp⟩ := hkp
  have hpd : S.lts[k]? = some p.d := by rw [← hps, List.getElem?_map, hp]; rfl
  have HD := hide (show dueW S k = if S.lost k || decide ((k : Int) < S.top p.d.fr p.d.to_) then 10 else 0 by
   unfold dueW WS.to_
   rw [if_neg h1, Int.toNat_natCast, hpd])
  have HOLD := hide (fun W (hW : Below w.heap.size w W) => zTf base y.og y.ob m v ps S.top W k p (hof.calm hW) hp)
  have HLK := hide (fun W (hW : Below w.heap.size w W) => (hls.below hW).look k hwf)
  have hd1 : decide (toP S.lts k < 0) = false := decide_eq_false h1
  generalize toP S.lts k = T at HT hd1
  generalize decide ((k : Int) < S.top p.d.fr p.d.to_) = O at HOLD HD
  clear h hcon hof hps hls hpl h1 hp hpd hid
  go_enter Tryz.func65, Tryz.ntmps65
  go_upto_region 1 with fail
  go_wp2_with fail
  refine (zAa HT).mono ?_
  rintro _ _ ⟨rfl, rfl⟩
  go_upto_region 3 with fail
  have c8 := (zAa HC).cell 8
  have lk := zAa HLK w (Below.refl _ _)
  cases hl : S.lost k with
  | true =>
   rw [hl] at HD lk
   go_wp2_with fail
   go_ret
   exact ⟨zBn (zAa HD).symm, Below.refl _ _⟩
  | false =>
   rw [hl] at HD lk
   go_wp2_with fail
   refine (zAa HOLD w (Below.refl _ _)).mono ?_
   rintro _ w2 ⟨rfl, hb2⟩
   cases O with
   | true =>
    go_wp2_with fail
    go_ret
    exact ⟨zBn (zAa HD).symm, hb2⟩
   | false =>
    go_wp2_with fail
    go_ret
    exact ⟨zBn (zAa HD).symm, hb2⟩
end
end
section
open Go.RowKit
section
variable {w w' : World} {c : Cfg} {y : Lay} {S : WS} {K base : Nat} {ow : Nat → Tag}
theorem zTl (h : PW w c y S K base ow) (j who : Nat) (n : Int) (hj : j < c.m) (hw : who < c.n) (hl : (S.bk j).wants.length = c.n) :
    Calls Tryz.prog 87 #[.pointer (some ⟨y.bg j, 0, none⟩), .int .i64 who, .int .i64 n] w fun e w' => e = .returned (.tuple #[]) ∧ Turned w c y { S with bk := upd1 S.bk j (zEs (S.bk j) who n) } K base ow w' := by
 obtain ⟨⟨p, hg, hb, ho⟩⟩ := h.pc (.bk j) hj
 rw [← hg]
 refine (zWd base c.n p c.cap c.tk (S.bk j) w who n hb hw hl (zAj h.may).1.2.2).mono ?_
 rintro e w' ⟨rfl, hb', hon⟩
 have hD : ∀ b, b < w.heap.size → p.has b → ow b = .bk j := fun b _ hd => ho b hd
 refine ⟨rfl, _, h.turn (.bk j) (fun _ => false) (by simp) hon hD (fun u hu W own hp => ?_) ?_, Kept.turn _ _ (by simp) hon hD⟩
 ·cases u with
  | bk i =>
   have hji : i ≠ j := fun e => hu (by rw [e])
   show i < c.m → BkRow W base (y.bg i) c.n c.cap c.tk (upd1 S.bk j _ i) own
   rw [zDl _ _ hji]
   exact hp
  | _ => exact hp
 ·intro _
  show BkRow w' base (y.bg j) c.n c.cap c.tk (upd1 S.bk j _ j) _
  rw [zDg]
  exact ⟨⟨p, hg, hb', fun k hk => by rw [zCp (hb.lt k hk)]; exact ho k hk⟩⟩
def yEf (w : World) (c : Cfg) (y : Lay) (S' : WS) (K base : Nat) (ow : Nat → Tag) (l : List Int) (r : Int) (e : Ending) (w' : World) : Prop :=
 ∃ (A : Option Addr) (cc : Nat) (ow' : Nat → Tag), e = .returned (.tuple #[.slice A c.n cc, .int .i64 r]) ∧ w'.ownsRow w.heap.size 3 1 (.slice A c.n cc) c.n (l.map (.int .i64)) ∧ PW w' c y S' K base ow' ∧ Kept w w' ow ow' ∧ ∀ q, (Value.slice A c.n cc).ownBlock = some q → ow' q = .no
theorem zRh (h : PW w c y S K base ow) (j : Nat) (hj : j < c.m) (L : Int) (hs : (S.bk j).ok c.n L) (hL : L ≤ 1000000) :
    Calls Tryz.prog 82 #[.pointer (some ⟨y.bg j, 0, none⟩)] w (yEf w c y { S with bk := upd1 S.bk j (zBj c.cap c.tk (S.bk j)).1 } K base ow (zBj c.cap c.tk (S.bk j)).2.1 (zBj c.cap c.tk (S.bk j)).2.2) := by
 obtain ⟨⟨p, hg, hb, ho⟩⟩ := h.pc (.bk j) hj
 obtain ⟨⟨_, hn1, hn8⟩, _, htk, _, hcap, _, _⟩ := zAj h.may
 rw [← hg]
 refine (zSs base c.n p c.cap c.tk (S.bk j) w L hb hs hL ⟨hn1, hn8⟩ hcap htk h.bw).mono ?_
 rintro e w' ⟨p', A, cc, rfl, hrow, hb', g1, g2, g3, g4, hon, hap⟩
 have hD : ∀ b, b < w.heap.size → p.has b → ow b = .bk j := fun b _ hd => ho b hd
 refine ⟨A, cc, _, rfl, hrow, h.turn (.bk j) (fun k => decide (k = p'.gq)) (by simp) hon hD (fun u hu W own hp => ?_) ?_, Kept.turn _ _ (by simp) hon hD, fun q hq => ?_⟩
 ·cases u with
  | bk i =>
   have hji : i ≠ j := fun e => hu (by rw [e])
   show i < c.m → BkRow W base (y.bg i) c.n c.cap c.tk (upd1 S.bk j _ i) own
   rw [zDl _ _ hji]
   exact hp
  | _ => exact hp
 ·intro _
  show BkRow w' base (y.bg j) c.n c.cap c.tk (upd1 S.bk j _ j) _
  rw [zDg]
  refine ⟨⟨p', g1.trans hg, hb', fun k hk => ?_⟩⟩
  have hold : p.has k → zFt ow w w' (.bk j) (fun k => decide (k = p'.gq)) k = .bk j := fun hk' => by rw [zCp (hb.lt k hk')]; exact ho k hk'
  rcases hk with e | e | e | e
  ·exact hold (Or.inl (e.trans g1))
  ·exact hold (Or.inr (Or.inl (e.trans g2)))
  ·exact hold (Or.inr (Or.inr (Or.inl (e.trans g3))))
  ·rcases g4 with e4 | e4
   ·exact hold (Or.inr (Or.inr (Or.inr (e.trans e4))))
   ·exact zIu (by omega) (hb'.lt k (Or.inr (Or.inr (Or.inr e)))) (by simpa using e)
 ·have h1 := (hrow.lt q hq).1
  exact zTu h1 (by
   have := hap q hq
   simp only [decide_eq_false_iff_not]
   exact fun e => this (Or.inr (Or.inr (Or.inr e))))
theorem zQq (h : PW w c y S K base ow) (hl : S.lts.length ≤ 1000000) (fr to_ : Int) (A : Option Addr) (n cc : Nat) (data : List Int) (B : Nat) (hdl : data.length = n) (hn : n ≤ 1000000) (hr : Reads w B 1 A n (data.map (.int .u8))) (hB : B ≤ w.heap.size) (hf : (Lit.int .i64 fr).wf = true) (ht : (Lit.int .i64 to_).wf = true) :
    Calls Tryz.prog 78 #[.pointer (some ⟨y.og, 0, none⟩), .int .i64 fr, .int .i64 to_, .slice A n cc] w fun e w' => e = .returned (.int .i64 S.lts.length) ∧ Turned w c y (S.posts [⟨fr, to_, data⟩]) K base ow w' := by
 obtain ⟨⟨v, ps, m, hof, hm, hps, hrows, hv⟩, o1, o2⟩ := h.pc .off
 have hpl : ps.length = S.lts.length := by rw [← hps, List.length_map]
 refine (zRm base y.og y.ob m v ps S.top w fr to_ A n cc data B hof (by omega) hdl hn hr hB h.bw hf ht).mono ?_
 rintro e w' ⟨v', p, rfl, hpd, hof', hon, hvn, hpn⟩
 have hD : ∀ b, b < w.heap.size → (b = y.og ∨ v.ownBlock = some b) → ow b = .off := fun b _ hd => by
  rcases hd with rfl | hd
  ·exact o1
  ·exact hv b hd
 refine ⟨by rw [hpl], _, h.turn .off (fun _ => true) (by simp) hon hD (fun u hu W own hp => ?_) ?_, Kept.turn _ _ (by simp) hon hD⟩
 ·cases u with
  | off => exact absurd rfl hu
  | _ => exact hp
 ·refine ⟨⟨v', ps ++ [p], m, hof', hm, ?_, fun q hq => ?_, fun k hk => ?_⟩, by rw [zCp hof.blk.lt]; exact o1, by rw [zCp hof.map.lt]; exact o2⟩
  ·rw [List.map_append, hps]
   show S.lts ++ [p.d] = S.lts ++ [_]
   rw [hpd]
  ·rcases List.mem_append.1 hq with hq | hq
   ·refine ⟨(hrows q hq).1, fun k hk => ?_⟩
    rw [zCp ((hof.rows q hq).lt k hk).2]
    exact (hrows q hq).2 k hk
   ·rw [List.mem_singleton] at hq
    subst hq
    have hqo := hof'.rows q (by simp)
    refine ⟨?_, fun k hk => zIu (hpn k hk) (hqo.lt k hk).2 rfl⟩
    have h1 := (Reads.of_own hqo).1
    rw [List.length_map, hpd] at h1
    dsimp only at h1
    omega
  ·rcases hvn k hk with h1 | h1
   ·rw [zCp (hof.own.lt k h1).2]; exact hv k h1
   ·exact zIu h1 (hof'.own.lt k hk).2 rfl
def OpenPost (w : World) (c : Cfg) (y : Lay) (S' : WS) (K base : Nat) (ow : Nat → Tag) (data : List Int) (e : Ending) (w' : World) : Prop :=
 ∃ (A : Option Addr) (n cc : Nat) (ow' : Nat → Tag), e = .returned (.tuple #[.slice A n cc, .int .i64 0]) ∧ w'.ownsRow w.heap.size 5 1 (.slice A n cc) n (data.map (.int .u8)) ∧ PW w' c y S' K base ow' ∧ Kept w w' ow ow' ∧ ∀ q, (Value.slice A n cc).ownBlock = some q → ow' q = .no
theorem zPy (h : PW w c y S K base ow) (hl : S.lts.length ≤ 1000000) (hK : K < 1000000) (k : Nat) (p : PoD) (hp : S.lts[k]? = some p) (hto : 0 ≤ p.to_) (hold : S.top p.fr p.to_ ≤ k) (hw : (Lit.int .i64 p.to_).wf = true) :
    Calls Tryz.prog 84 #[.pointer (some ⟨y.og, 0, none⟩), .int .i64 p.to_, .int .i64 k] w (OpenPost w c y (S.opened p k) (K + 1) base ow p.data) := by
 obtain ⟨⟨v, ps, m, hof, hm, hps, hrows, hv⟩, o1, o2⟩ := h.pc .off
 have hpl : ps.length = S.lts.length := by rw [← hps, List.length_map]
 have hop : zIj (ps.map (·.d)) S.top p.to_ k = (fun f t => if f = p.fr ∧ t = p.to_ then (k : Int) + 1 else S.top f t, p.data, 0) := by
  have htp : toP (ps.map (·.d)) k = p.to_ := by
   unfold toP
   rw [if_neg (by omega), Int.toNat_natCast, hps, hp]
  unfold zIj
  rw [htp, if_neg (by omega), if_neg (by simp), Int.toNat_natCast, hps, hp]
  dsimp only
  rw [if_neg (by omega)]
 refine (zRs base y.og y.ob m v ps S.top w p.to_ k hof (by omega) (by unfold maxLen; omega) h.bw (fun q hq => (hrows q hq).1) hw).mono ?_
 rw [hop]
 rintro e w' ⟨A, n, cc, rfl, hrow, hof', hon⟩
 have hD : ∀ b, b < w.heap.size → b = y.ob → ow b = .off := fun b _ hd => by rw [hd]; exact o2
 refine ⟨A, n, cc, _, rfl, hrow, h.turn .off (fun _ => false) (by simp) hon hD (fun u hu W own hp => ?_) ?_, Kept.turn _ _ (by simp) hon hD, fun q hq => zTu (hrow.lt q hq).1 rfl⟩
 ·cases u with
  | off => exact absurd rfl hu
  | lst => obtain ⟨⟨m2, h1, h2⟩, o⟩ := hp; exact ⟨⟨m2, h1, by omega⟩, o⟩
  | _ => exact hp
 ·refine ⟨⟨v, ps, m + 1, hof', by omega, hps, fun q hq => ⟨(hrows q hq).1, fun k hk => ?_⟩, fun k hk => ?_⟩, by rw [zCp hof.blk.lt]; exact o1, by rw [zCp hof.map.lt]; exact o2⟩
  ·rw [zCp ((hof.rows q hq).lt k hk).2]; exact (hrows q hq).2 k hk
  ·rw [zCp (hof.own.lt k hk).2]; exact hv k hk
theorem PW.loseAt (h : PW w c y S K base ow) (hK : K < 1000000) (id : Int) (hw : (Lit.int .i64 id).wf = true) :
    ∃ w', (Instr.mapUpdate 70 (.map (some y.lb)) (.int .i64 id) (.bool true)).run Tryz.prog w = .ok () w' ∧ Turned w c y (S.lose id) (K + 1) base ow w' := by
 obtain ⟨⟨m, hls, hm⟩, o⟩ := h.pc .lst
 obtain ⟨w', hrun, hls', hg⟩ := hls.store id true hw (by unfold maxLen; omega)
 have hon : Only (fun k => k = y.lb) w w' := (Only.refl _ w).grown hg (fun g hg _ => by cases hg; rfl)
 have hD : ∀ b, b < w.heap.size → b = y.lb → ow b = .lst := fun b _ hd => by rw [hd]; exact o
 refine ⟨w', hrun, _, h.turn .lst (fun _ => false) (by simp) hon hD (fun u hu W own hp => ?_) ?_, Kept.turn _ _ (by simp) hon hD⟩
 ·cases u with
  | lst => exact absurd rfl hu
  | off => obtain ⟨⟨v, ps, m2, h1, h2, h3⟩, a, b⟩ := hp; exact ⟨⟨v, ps, m2, h1, by omega, h3⟩, a, b⟩
  | _ => exact hp
 ·exact ⟨⟨m + 1, hls', by omega⟩, by rw [zCp hls.lt]; exact o⟩
theorem zYu (h : PW w c y S K base ow) (i l : Nat) (hi : i < c.n) (es : List Ent) {SS : List EnR} (hs : StoreAt w base (y.br i).t SS) (hS : SS.map EnR.es = S.st i) (hrows : ∀ r ∈ SS, ∀ b, r.val.ownBlock = some b → ow b = .str i) (ho : ow (y.br i).t = .str i) {e : Ending} (hp : zNu w base (y.br i).t SS l es e w') :
    e = .returned (.tuple #[]) ∧ Turned w c y { S with st := upd1 S.st i ((S.st i).set l es) } K base ow w' := by
 obtain ⟨rfl, r, hre, hs', hon, hrn⟩ := hp
 have hD : ∀ b, b < w.heap.size → b = (y.br i).t → ow b = .str i := fun b _ hd => by rw [hd]; exact ho
 refine ⟨rfl, _, h.turn (.str i) (fun _ => true) (by simp) hon hD (fun u hu W own hp => ?_) ?_, Kept.turn _ _ (by simp) hon hD⟩
 ·cases u with
  | str j =>
   have hji : j ≠ i := fun e => hu (by rw [e])
   show j < c.n → StRow W base (y.br j).t (upd1 S.st i _ j) own
   rw [zDl _ _ hji]
   exact hp
  | _ => exact hp
 ·intro _
  show StRow w' base (y.br i).t (upd1 S.st i _ i) _
  rw [zDg]
  refine ⟨⟨SS.set l r, hs', by rw [List.map_set, hS, hre], fun q hq b hb => ?_⟩, by rw [zCp hs.blk.lt]; exact ho⟩
  rcases List.mem_or_eq_of_mem_set hq with hq' | rfl
  ·rw [zCp ((hs.rows q hq').lt b hb).2]; exact hrows q hq' b hb
  ·exact zIu (hrn b hb) ((hs'.rows q hq).lt b hb).2 rfl
theorem zPn (h : PW w c y S K base ow) (i l : Nat) (hi : i < c.n) (hl : l < c.ln) (hst : (S.st i).length = c.ln) (A : Option Addr) (n cc : Nat) (b : List Ent) (B : Nat) (hbl : b.length = n) (hn : n ≤ 1000000) (hr : Reads w B 5 A n (b.flatMap zAd)) (hB : B ≤ w.heap.size) :
    Calls Tryz.prog 90 #[.slice (some ⟨(y.br i).t, 0, none⟩) c.ln c.ln, .int .i64 l, .slice A n cc] w fun e w' => e = .returned (.tuple #[]) ∧ Turned w c y { S with st := upd1 S.st i ((S.st i).set l (zCz ((S.st i).getD l []) b).1) } K base ow w' := by
 obtain ⟨⟨SS, hs, hS, hrows⟩, o⟩ := h.pc (.str i) hi
 have hSl : SS.length = c.ln := by rw [← hst, ← hS, List.length_map]
 obtain ⟨x, hx⟩ : ∃ x, SS[l]? = some x := ⟨_, List.getElem?_eq_getElem (by omega)⟩
 have hxe : (S.st i).getD l [] = x.es := by rw [← hS, List.getD_eq_getElem?_getD, List.getElem?_map, hx]; rfl
 have hl4 := (zAj h.may).2.1
 rw [hxe]
 exact (zKx base (y.br i).t c.ln SS w l x A n cc b B hs hSl hx hbl (by omega) hr hB h.bw (by omega)).mono fun e w' hp => zYu h i l hi _ hs hS hrows o hp
theorem zTk (h : PW w c y S K base ow) (i l : Nat) (hi : i < c.n) (hl : l < c.ln) (hst : (S.st i).length = c.ln ∧ ∀ q ∈ S.st i, mayP q = true) (who key value : Int) (gone : Bool) :
    Calls Tryz.prog 116 #[.slice (some ⟨(y.br i).t, 0, none⟩) c.ln c.ln, .int .i64 l, .int .i64 who, .int .i64 key, .int .i64 value, .bool gone] w fun e w' => e = .returned (.tuple #[]) ∧ Turned w c y { S with st := upd1 S.st i ((S.st i).set l (putE ((S.st i).getD l []) who key value gone)) } K base ow w' := by
 obtain ⟨⟨SS, hs, hS, hrows⟩, o⟩ := h.pc (.str i) hi
 have hSl : SS.length = c.ln := by rw [← hst.1, ← hS, List.length_map]
 obtain ⟨x, hx⟩ : ∃ x, SS[l]? = some x := ⟨_, List.getElem?_eq_getElem (by omega)⟩
 have hxe : (S.st i).getD l [] = x.es := by rw [← hS, List.getD_eq_getElem?_getD, List.getElem?_map, hx]; rfl
 have hl4 := (zAj h.may).2.1
 have hxm : x.es ∈ S.st i := by rw [← hS]; exact List.mem_map.2 ⟨x, List.mem_of_getElem? hx, rfl⟩
 rw [hxe]
 exact (zWc base (y.br i).t c.ln SS w l x who key value gone hs hSl hx (yCf (hst.2 _ hxm)) h.bw (by omega)).mono fun e w' hp => zYu h i l hi _ hs hS hrows o hp
theorem zRf (h : PW w c y S K base ow) (i l : Nat) (hi : i < c.n) (hl : l < c.ln) (hst : (S.st i).length = c.ln) (key : Int) :
    Calls Tryz.prog 117 #[.slice (some ⟨(y.br i).t, 0, none⟩) c.ln c.ln, .int .i64 l, .int .i64 key] w fun e w' => e = .returned (.tuple #[entV (zEr ((S.st i).getD l []) key).1, .bool (zEr ((S.st i).getD l []) key).2]) ∧ Below w.heap.size w w' := by
 obtain ⟨⟨SS, hs, hS, hrows⟩, o⟩ := h.pc (.str i) hi
 have hSl : SS.length = c.ln := by rw [← hst, ← hS, List.length_map]
 obtain ⟨x, hx⟩ : ∃ x, SS[l]? = some x := ⟨_, List.getElem?_eq_getElem (by omega)⟩
 have hxe : (S.st i).getD l [] = x.es := by rw [← hS, List.getD_eq_getElem?_getD, List.getElem?_map, hx]; rfl
 have hl4 := (zAj h.may).2.1
 rw [hxe]
 exact zTd base (y.br i).t c.ln SS w l x key hs hSl hx (by omega)
end
end
section
open Go.RowKit
def zFz (d : TolD) : TolD := { d with who := 0 }
def TolNo (t : Tol) (ow : Nat → Tag) : Prop := ∀ v, (v = Value.slice t.sA t.sn t.sc ∨ v = Value.slice t.fA t.fn t.fc ∨ v = Value.slice t.rA t.rn t.rc) → ∀ k, v.ownBlock = some k → ow k = .no
theorem zIg (code who : Int) (ow : Nat → Tag) : TolNo (tol0 code who) ow := fun v hv k hk => by
 rcases hv with rfl | rfl | rfl <;> cases hk
def zBo (w : World) (c : Cfg) (y : Lay) (K base : Nat) (ow : Nat → Tag) (r : TolD × WS) (e : Ending) (w' : World) : Prop :=
 ∃ t : Tol, e = .returned t.val ∧ t.d = r.1 ∧ TolOwn t w' w.heap.size ∧ ∃ ow', PW w' c y r.2 K base ow' ∧ Kept w w' ow ow' ∧ TolNo t ow'
theorem zDf {w : World} {c : Cfg} {y : Lay} {K base : Nat} {ow : Nat → Tag} {S' : WS} {w' : World} (code : Int) {who : Int} {r : TolD × WS} (hr : r = (zAy code who, S')) (h : Turned w c y S' K base ow w') : zBo w c y K base ow (zFz r.1, r.2) (.returned (tol0 code 0).val) w' := by
 obtain ⟨ow', h1, h2⟩ := h
 subst hr
 exact ⟨tol0 code 0, rfl, rfl, zGy _ _ _ _, ow', h1, h2, zIg _ _ _⟩
def wrT (W : World) (b : Nat) (t : Tol) : World :=
 ((((((((((W.setCell ⟨b, 0, none⟩ (.int .i64 t.d.code)).setCell ⟨b, 1, none⟩ (.int .i64 t.d.who)).setCell ⟨b, 2, none⟩ (.int .i64 t.d.stock.code)).setCell ⟨b, 3, none⟩ (.int .i64 t.d.stock.id)).setCell ⟨b, 4, none⟩ (.int .i64 t.d.stock.free)).setCell ⟨b, 5, none⟩ (.int .i64 t.d.stock.held)).setCell ⟨b, 6, none⟩ (.int .i64 t.d.stock.used)).setCell ⟨b, 7, none⟩ (.int .i64 t.d.value)).setCell ⟨b, 8, none⟩ (.slice t.sA t.sn t.sc)).setCell ⟨b, 9, none⟩ (.slice t.fA t.fn t.fc)).setCell ⟨b, 10, none⟩ (.slice t.rA t.rn t.rc)
theorem zCc {W : World} {b : Nat} {cs : Array Value} (h : Blk W b 57 cs) (hs : cs.size = 11) (t : Tol) : Blk (wrT W b t) b 57 t.cells.toArray := by
 have h8 := ((((((((((h.set_ 0 (.int .i64 t.d.code)).set_ 1 (.int .i64 t.d.who)).set_ 2 (.int .i64 t.d.stock.code)).set_ 3 (.int .i64 t.d.stock.id)).set_ 4 (.int .i64 t.d.stock.free)).set_ 5 (.int .i64 t.d.stock.held)).set_ 6 (.int .i64 t.d.stock.used)).set_ 7 (.int .i64 t.d.value)).set_ 8 (.slice t.sA t.sn t.sc)).set_ 9 (.slice t.fA t.fn t.fc)).set_ 10 (.slice t.rA t.rn t.rc)
 have e : (((((((((((cs.setIfInBounds 0 (.int .i64 t.d.code)).setIfInBounds 1 (.int .i64 t.d.who)).setIfInBounds 2 (.int .i64 t.d.stock.code)).setIfInBounds 3 (.int .i64 t.d.stock.id)).setIfInBounds 4 (.int .i64 t.d.stock.free)).setIfInBounds 5 (.int .i64 t.d.stock.held)).setIfInBounds 6 (.int .i64 t.d.stock.used)).setIfInBounds 7 (.int .i64 t.d.value)).setIfInBounds 8 (.slice t.sA t.sn t.sc)).setIfInBounds 9 (.slice t.fA t.fn t.fc)).setIfInBounds 10 (.slice t.rA t.rn t.rc)) = t.cells.toArray := by
  rw [← Array.toList_inj]
  simp only [Array.toList_setIfInBounds, Tol.cells]
  have hl : cs.toList.length = 11 := by simpa using hs
  generalize cs.toList = l at hl
  match l, hl with
  | [a, b, c, d, e, f, g, h, i, j, k], _ => rfl
 rw [e] at h8
 exact h8
theorem zBk (W : World) (b : Nat) (t : Tol) : Only (fun k => k = b) W (wrT W b t) :=
 zAg (zAg (zAg (zAg (zAg (zAg (zAg (zAg (zAg (zAg (zAg (Only.refl _ W) 0 _) 1 _) 2 _) 3 _) 4 _) 5 _) 6 _) 7 _) 8 _) 9 _) 10 _
theorem zAt {W : World} {b : Nat} {t : Tol} (h : Blk W b 57 t.cells.toArray) : W.cell? ⟨b, 0, none⟩ = some (.int .i64 t.d.code) ∧ W.cell? ⟨b, 1, none⟩ = some (.int .i64 t.d.who) ∧ W.cell? ⟨b, 2, none⟩ = some (.int .i64 t.d.stock.code) ∧ W.cell? ⟨b, 3, none⟩ = some (.int .i64 t.d.stock.id) ∧ W.cell? ⟨b, 4, none⟩ = some (.int .i64 t.d.stock.free) ∧ W.cell? ⟨b, 5, none⟩ = some (.int .i64 t.d.stock.held) ∧ W.cell? ⟨b, 6, none⟩ = some (.int .i64 t.d.stock.used) ∧ W.cell? ⟨b, 7, none⟩ = some (.int .i64 t.d.value) ∧ W.cell? ⟨b, 8, none⟩ = some (.slice t.sA t.sn t.sc) ∧ W.cell? ⟨b, 9, none⟩ = some (.slice t.fA t.fn t.fc) ∧ W.cell? ⟨b, 10, none⟩ = some (.slice t.rA t.rn t.rc) := ⟨h.cell 0, h.cell 1, h.cell 2, h.cell 3, h.cell 4, h.cell 5, h.cell 6, h.cell 7, h.cell 8, h.cell 9, h.cell 10⟩
theorem zBl {W : World} {b : Nat} (h : Blk W b 57 (tol0 0 0).cells.toArray) : W.cell? ⟨b, 0, none⟩ = some (.int .i64 0) ∧ W.cell? ⟨b, 1, none⟩ = some (.int .i64 0) ∧ W.cell? ⟨b, 2, none⟩ = some (.int .i64 0) ∧ W.cell? ⟨b, 3, none⟩ = some (.int .i64 0) ∧ W.cell? ⟨b, 4, none⟩ = some (.int .i64 0) ∧ W.cell? ⟨b, 5, none⟩ = some (.int .i64 0) ∧ W.cell? ⟨b, 6, none⟩ = some (.int .i64 0) ∧ W.cell? ⟨b, 7, none⟩ = some (.int .i64 0) ∧ W.cell? ⟨b, 8, none⟩ = some (.slice none 0 0) ∧ W.cell? ⟨b, 9, none⟩ = some (.slice none 0 0) ∧ W.cell? ⟨b, 10, none⟩ = some (.slice none 0 0) := ⟨h.cell 0, h.cell 1, h.cell 2, h.cell 3, h.cell 4, h.cell 5, h.cell 6, h.cell 7, h.cell 8, h.cell 9, h.cell 10⟩
theorem zBi {W : World} {b : Nat} {cs : Array Value} (h : Blk W b 57 cs) : W.frozen? ⟨b, 0, none⟩ = false ∧ W.frozen? ⟨b, 1, none⟩ = false ∧ W.frozen? ⟨b, 2, none⟩ = false ∧ W.frozen? ⟨b, 3, none⟩ = false ∧ W.frozen? ⟨b, 4, none⟩ = false ∧ W.frozen? ⟨b, 5, none⟩ = false ∧ W.frozen? ⟨b, 6, none⟩ = false ∧ W.frozen? ⟨b, 7, none⟩ = false ∧ W.frozen? ⟨b, 8, none⟩ = false ∧ W.frozen? ⟨b, 9, none⟩ = false ∧ W.frozen? ⟨b, 10, none⟩ = false := ⟨h.frozen 0, h.frozen 1, h.frozen 2, h.frozen 3, h.frozen 4, h.frozen 5, h.frozen 6, h.frozen 7, h.frozen 8, h.frozen 9, h.frozen 10⟩
section
variable {w w' : World} {c : Cfg} {y : Lay} {S : WS} {K base : Nat} {ow : Nat → Tag}
theorem PW.own (h : PW w c y S K base ow) {b : Nat} (ho : Only (fun k => k = b) w w') (hb : ow b = .no) (hlow : base ≤ b) : PW w' c y S K base ow :=
 h.far ho (fun k _ e => by rw [e]; exact hb) (fun k hk e => by omega)
theorem Turned.nobody {w1 w2 : World} (h : PW w c y S K base ow) (hb : Below w.heap.size w w1) {b : Nat} (ho : Only (fun k => k = b) w1 w2) (hq : w.heap.size ≤ b) : Turned w c y S K base ow w2 :=
 ⟨ow, (h.calm hb).own ho (h.fresh b hq) (Nat.le_trans h.bw hq), ⟨(Only.of_below hb (fun x h1 h2 => by omega)).trans ho (fun x hx e => by omega), fun _ _ => rfl⟩⟩
theorem Turned.own {w1 w2 : World} (h : Turned w c y S K base ow w1) {b : Nat} (ho : Only (fun k => k = b) w1 w2) (hb : w.heap.size ≤ b) (hno : ∀ ow', PW w1 c y S K base ow' → Kept w w1 ow ow' → ow' b = .no) (hbw : base ≤ w.heap.size) : Turned w c y S K base ow w2 := by
 obtain ⟨ow1, h1, h2⟩ := h
 refine ⟨ow1, h1.own ho (hno ow1 h1 h2) (by omega), ⟨h2.only.trans ho (fun x hx e => by omega), h2.old⟩⟩
end
section
variable {w w' : World} {c : Cfg} {y : Lay} {S : WS} {K base : Nat} {ow : Nat → Tag}
theorem Turned.mk_ {w1 w2 : World} {ow1 : Nat → Tag} (hp : PW w1 c y S K base ow1) (hk : Kept w w1 ow ow1) {b : Nat} (ho : Only (fun k => k = b) w1 w2) (hb : w.heap.size ≤ b) (hn : ow1 b = .no) (hw : base ≤ w.heap.size) : Turned w c y S K base ow w2 :=
 ⟨ow1, hp.own ho hn (Nat.le_trans hw hb), ⟨hk.only.trans ho (fun x hx e => by omega), hk.old⟩⟩
end
def zJr (c : Cfg) (s : StpI) : Prop := s.label < 0 ∨ (c.ln : Int) ≤ s.label ∨ s.key < 0 ∨ 8 ≤ s.key ∨ (s.kind = 7 ∧ (s.count < 0 ∨ 255 < s.count))
section
variable {w : World} {c : Cfg} {y : Lay} {S : WS} {K base : Nat} {ow : Nat → Tag}
set_option maxRecDepth 100000 in
set_option maxHeartbeats 2000000 in
theorem yDk (h : PW w c y S K base ow) (s : StpI) (i : Nat) (hi : i < c.n) (hb : zJr c s) :
    Calls Tryz.prog 92 #[.pointer (some ⟨y.hb, 0, none⟩), .pointer (some ⟨(y.br i).b, 0, none⟩), s.val] w (zBo w c y K base ow (zFz (zBu c S s i).1, (zBu c S s i).2)) := by
 have HE := hide (show zBu c S s i = (zAy 2 i, S) from if_pos hb)
 obtain ⟨kind, who, item, count, life, id, label, key⟩ := s
 unfold zJr at hb
 dsimp only at hb
 unfold StpI.val
 dsimp only
 obtain ⟨p, hp⟩ : ∃ p, p = w.heap.size := ⟨_, rfl⟩
 obtain ⟨q, hq⟩ : ∃ q, q = w.heap.size + 1 := ⟨_, rfl⟩
 obtain ⟨wx, hwx⟩ : ∃ wx, wx = (w.alloc (.cells #[.int .i64 kind, .int .i64 who, .int .i64 item, .int .i64 count, .int .i64 life, .int .i64 id, .int .i64 label, .int .i64 key] 48)).alloc (.cells (tol0 0 0).cells.toArray 57) := ⟨_, rfl⟩
 have hbx : Below w.heap.size w wx := by rw [hwx]; exact ((Below.refl _ _).alloc (Nat.le_refl _) _).alloc (by simp) _
 have kp : Blk wx p 48 #[.int .i64 kind, .int .i64 who, .int .i64 item, .int .i64 count, .int .i64 life, .int .i64 id, .int .i64 label, .int .i64 key] := by rw [hwx, hp]; exact (Blk.new w _ _).alloc _
 have kq : Blk wx q 57 (tol0 0 0).cells.toArray := by
  have h1 := Blk.new (w.alloc (.cells #[.int .i64 kind, .int .i64 who, .int .i64 item, .int .i64 count, .int .i64 life, .int .i64 id, .int .i64 label, .int .i64 key] 48)) 57 (tol0 0 0).cells.toArray
  rw [hwx, hq]
  simpa using h1
 have hx := h.calm hbx
 have HNO := hide (fun W => zCi 2 W)
 unfold tol0 zAy Tol.val Stk.none at HNO
 dsimp only at HNO
 have c1 : wx.cell? ⟨y.hb, 1, none⟩ = some (.slice c.la.A c.la.n c.la.c) := (hx.pc .con).blk.cell 1
 have hln : c.la.n = c.ln := hx.cfg.1.1.symm
 rw [hln] at c1
 have s0 : wx.cell? ⟨p, 0, none⟩ = some (.int .i64 kind) := kp.cell 0
 have s3 : wx.cell? ⟨p, 3, none⟩ = some (.int .i64 count) := kp.cell 3
 have s6 : wx.cell? ⟨p, 6, none⟩ = some (.int .i64 label) := kp.cell 6
 have s7 : wx.cell? ⟨p, 7, none⟩ = some (.int .i64 key) := kp.cell 7
 have HX := hide hx
 have HKQ := hide kq
 have HBX := hide hbx
 have HP := hide hp
 have HQ := hide hq
 have HH := hide h
 have HWX := hide hwx
 clear hx kp kq hbx hp hq h hwx hln
 go_enter Tryz.func92, Tryz.ntmps92
 go_upto_region 1 with fail
 rw [show (#[.int .i64 0, .int .i64 0, .int .i64 0, .int .i64 0, .int .i64 0, .int .i64 0, .int .i64 0, .int .i64 0, .slice none 0 0, .slice none 0 0, .slice none 0 0] : Array Value) = (tol0 0 0).cells.toArray from rfl, ← zAa HWX, ← zAa HQ, ← zAa HP]
 have hd : (decide (label < 0) = true) ∨ (decide (label < 0) = false ∧ decide ((c.ln : Int) ≤ label) = true) ∨ (decide (label < 0) = false ∧ decide ((c.ln : Int) ≤ label) = false ∧ decide (key < 0) = true) ∨
     (decide (label < 0) = false ∧ decide ((c.ln : Int) ≤ label) = false ∧ decide (key < 0) = false ∧ decide (8 ≤ key) = true) ∨
     (decide (label < 0) = false ∧ decide ((c.ln : Int) ≤ label) = false ∧ decide (key < 0) = false ∧ decide (8 ≤ key) = false ∧ (kind == 7) = true ∧ decide (count < 0) = true) ∨
     (decide (label < 0) = false ∧ decide ((c.ln : Int) ≤ label) = false ∧ decide (key < 0) = false ∧ decide (8 ≤ key) = false ∧ (kind == 7) = true ∧ decide (count < 0) = false ∧ decide (255 < count) = true) := by
  simp only [decide_eq_true_eq, decide_eq_false_iff_not, beq_iff_eq]
  omega
 clear hb
 have HF := hide (show ∀ W W3 WF : World, Below wx.heap.size wx W → Below W.heap.size W W3 → Only (fun k => k = q) W3 WF → zBo w c y K base ow (zFz (zBu c S ⟨kind, who, item, count, life, id, label, key⟩ i).1, (zBu c S ⟨kind, who, item, count, life, id, label, key⟩ i).2) (.returned (tol0 2 0).val) WF from fun W W3 WF h1 h2 h3 => by
  have h4 := ((zAa HBX).trans (h1.mono (zAa HBX).size)).trans (h2.mono (Nat.le_trans (zAa HBX).size h1.size))
  exact zDf 2 (zAa HE) (Turned.nobody (zAa HH) h4 h3 (by rw [zAa HQ]; omega)))
 rcases hd with a1 | ⟨a1, a2⟩ | ⟨a1, a2, a3⟩ | ⟨a1, a2, a3, a4⟩ | ⟨a1, a2, a3, a4, a5, a6⟩ | ⟨a1, a2, a3, a4, a5, a6, a7⟩
 all_goals
  go_quiet (fail)
  have HW := hide (below_drewN (Below.refl wx.heap.size wx) nq)
  have HK2 := hide ((zAa HKQ).drewN nq)
  generalize wx.drewN nq = w2 at HW HK2 ⊢
  clear c1 s0 s3 s6 s7
  go_wp2_with fail
  refine (zAa HNO w2).mono ?_
  rintro _ w3 ⟨rfl, hb3⟩
  have k3 := (zAa HK2).below hb3 (zAa HK2).lt
  obtain ⟨g0, g1, g2, g3, g4, g5, g6, g7, g8, g9, g10⟩ := zBl k3
  obtain ⟨f0, f1, f2, f3, f4, f5, f6, f7, f8, f9, f10⟩ := zBi k3
  have HK3 := hide k3
  have HB3 := hide hb3
  clear k3 hb3
  go_wp2_with fail
  change bodyPost _ _ _ _ _ (wrT w3 q (tol0 2 0))
  have k4 := zCc (zAa HK3) rfl (tol0 2 0)
  have HO := hide (zBk w3 q (tol0 2 0))
  clear g0 g1 g2 g3 g4 g5 g6 g7 g8 g9 g10 f0 f1 f2 f3 f4 f5 f6 f7 f8 f9 f10
  generalize wrT w3 q (tol0 2 0) = w4 at k4 HO ⊢
  obtain ⟨d0, d1, d2, d3, d4, d5, d6, d7, d8, d9, d10⟩ := zAt k4
  refine bodyPost_ret (v := (tol0 2 0).val) (by simp [results, Tryz.results92, go_sem, d0, d1, d2, d3, d4, d5, d6, d7, d8, d9, d10, Tol.val]) rfl (zAa HF w2 w3 w4 (zAa HW) (zAa HB3) (zAa HO))
end
end
end Go.Proofs.YtbolcebmbpepdaaGreatDoor
