/- seal.Office: one move. Conditions: none beyond what each theorem states. -/
import Derived.Test.YtiljallignlbgaaSealC
import Derived.Test.YtiljallignlbgaaRegionW
namespace Go.Proofs.Ytiljallignlbgaa
open Go.RowKit
set_option linter.unusedVariables false

structure LtD where
  kind : Int
  fr : Int
  to_ : Int
  id : Int
  data : List Int
structure Lt where
  d : LtD
  A : Option Addr
  n : Nat
  c : Nat
def Lt.cells (x : Lt) : List Value := [.int .i64 x.d.kind, .int .i64 x.d.fr, .int .i64 x.d.to_, .int .i64 x.d.id, .slice x.A x.n x.c]
theorem Lt.cells_len (x : Lt) : x.cells.length = 5 := rfl
def Lt.val (x : Lt) : Value := .agg #[.int .i64 x.d.kind, .int .i64 x.d.fr, .int .i64 x.d.to_, .int .i64 x.d.id, .slice x.A x.n x.c]
structure Lt.ok (x : Lt) (w : World) (B : Nat) : Prop where
  len : x.d.data.length = x.n
  cap : x.n ≤ x.c
  max : x.c ≤ maxLen
  rd : Reads w B 1 x.A x.n (x.d.data.map (.int .u8))
  wf : (Lit.int .i64 x.d.fr).wf = true ∧ (Lit.int .i64 x.d.to_).wf = true
theorem Lt.ok.below {x : Lt} {w w' : World} {B : Nat} (h : x.ok w B) (hb : Below B w w') : x.ok w' B := { h with rd := h.rd.below hb }
theorem Lt.ok.more {x : Lt} {w : World} {B B' : Nat} (h : x.ok w B) (hB : B ≤ B') : x.ok w B' := { h with rd := h.rd.more hB }
structure OdD where
  code : Int
  id : Int
  size : Int
  data : List Int
structure SlS where
  l : List PoD
  top : Int → Int → Int
def moveS (s : SlS) (x : LtD) : SlS × OdD :=
  if x.kind ≠ 1 ∧ x.kind ≠ 2 then (s, ⟨3, 0, 0, []⟩)
  else if partyB x.to_ = false ∨ (x.kind = 1 ∧ partyB x.fr = false) then (s, ⟨2, 0, 0, []⟩)
  else if x.kind = 2 then
    if (openS s.l s.top x.to_ x.id).2.2 ≠ 0 then (⟨s.l, (openS s.l s.top x.to_ x.id).1⟩, ⟨(openS s.l s.top x.to_ x.id).2.2, 0, 0, []⟩)
    else (⟨s.l, (openS s.l s.top x.to_ x.id).1⟩, ⟨0, x.id, (openS s.l s.top x.to_ x.id).2.1.length, (openS s.l s.top x.to_ x.id).2.1⟩)
  else if 256 < x.data.length then (s, ⟨1, 0, 0, []⟩)
  else (⟨s.l ++ [⟨x.fr, x.to_, x.data⟩], s.top⟩, ⟨0, s.l.length, x.data.length, []⟩)
def MvPost (base g b m : Nat) (v : Value) (w : World) (r : SlS × OdD) (e : Ending) (w' : World) : Prop :=
  ∃ v' l' A n c, e = .returned (.agg #[.int .i64 r.2.code, .int .i64 r.2.id, .int .i64 r.2.size, .slice A n c]) ∧ w'.ownsRow w.heap.size 5 1 (.slice A n c) n (r.2.data.map (.int .u8)) ∧
    OfAt w' base g b v' l' (m + 1) r.1.top ∧ l'.map (·.d) = r.1.l ∧ (∀ p ∈ l', p.n ≤ 1000000) ∧ Only (fun k => k = g ∨ k = b ∨ v.ownBlock = some k) w w'

structure HasL (p : Nat) (cs : Array Value) where
  W : World
  h : Blk W p 61 cs
theorem blk_opened {w : World} {p : Nat} {t : TypeId} {a0 a1 a2 a3 : Value} (h : Blk w p t #[a0, a1, a2, a3]) (b0 b1 b2 b3 : Value) :
    Blk ((((w.setCell ⟨p, 0, none⟩ b0).setCell ⟨p, 1, none⟩ b1).setCell ⟨p, 2, none⟩ b2).setCell ⟨p, 3, none⟩ b3) p t #[b0, b1, b2, b3] := by
  have h1 : Blk (w.setCell ⟨p, 0, none⟩ b0) p t #[b0, a1, a2, a3] := h.set_ 0 b0
  have h2 : Blk ((w.setCell ⟨p, 0, none⟩ b0).setCell ⟨p, 1, none⟩ b1) p t #[b0, b1, a2, a3] := h1.set_ 1 b1
  have h3 : Blk (((w.setCell ⟨p, 0, none⟩ b0).setCell ⟨p, 1, none⟩ b1).setCell ⟨p, 2, none⟩ b2) p t #[b0, b1, b2, a3] := h2.set_ 2 b2
  exact h3.set_ 3 b3
theorem mv_fin {base g b m m' p n c : Nat} {v v' : Value} {l' : List Po} {top' : Int → Int → Int} {w W WF : World} {r : SlS × OdD} {A : Option Addr} {cs : Array Value} (hx : OfAt W base g b v' l' m' top') (hm : m' ≤ m + 1) (hl : l'.map (·.d) = r.1.l) (ht : r.1.top = top') (hn : ∀ p ∈ l', p.n ≤ 1000000)
    (hD : Only (fun k => k = g ∨ k = b ∨ v.ownBlock = some k) w W) (hrow : W.ownsRow w.heap.size 5 1 (.slice A n c) n (r.2.data.map (.int .u8))) (kp : Blk W p 36 cs) (hp : w.heap.size ≤ p) (hF : Only (fun k => k = p) W WF) :
    MvPost base g b m v w r (.returned (.agg #[.int .i64 r.2.code, .int .i64 r.2.id, .int .i64 r.2.size, .slice A n c])) WF := by
  refine ⟨v', l', A, n, c, rfl, own_only hrow hF (fun k hk e => own_blk_ne hrow kp (by decide) (by rw [hk, e])), ?_, hl, hn, hD.trans hF (fun x hx h => by omega)⟩
  rw [ht]
  exact (hx.only hF (fun e => Blk.ne_ hx.blk kp (by decide) e) (fun e => blk_map_ne kp hx.map e.symm) (fun k hk e => own_blk_ne hx.own kp (by decide) (by rw [hk, e])) (fun q hq k hk e => own_blk_ne (hx.rows q hq) kp (by decide) (by rw [hk, e]))).more hm

set_option maxRecDepth 100000 in
set_option maxHeartbeats 1000000 in
theorem officeMove_any (base g b m : Nat) (v : Value) (l : List Po) (top : Int → Int → Int) (w : World) (x : Lt) (B : Nat) (h : OfAt w base g b v l m top) (hlm : l.length ≤ 1000000) (hm : m < maxLen) (hb0 : base ≤ w.heap.size) (hbytes : ∀ p ∈ l, p.n ≤ 1000000) (hx : x.ok w B) (hB : B ≤ w.heap.size) :
    Calls Try.prog 17 #[.pointer (some ⟨g, 0, none⟩), x.val] w (MvPost base g b m v w (moveS ⟨l.map (·.d), top⟩ x.d)) := by
  obtain ⟨⟨kind, fr, to_, id, data⟩, A, n, c⟩ := x
  unfold Lt.val
  dsimp only
  obtain ⟨wx, hwx⟩ : ∃ wx, wx = (w.alloc (.cells #[.int .i64 kind, .int .i64 fr, .int .i64 to_, .int .i64 id, .slice A n c] 61)).alloc (.cells #[.int .i64 0, .int .i64 0, .int .i64 0, .slice none 0 0] 36) := ⟨_, rfl⟩
  have hbx : Below w.heap.size w wx := by rw [hwx]; exact ((Below.refl _ _).alloc (Nat.le_refl _) _).alloc (by simp) _
  have hsx : wx.heap.size = w.heap.size + 2 := by rw [hwx]; simp
  have k0 : Blk wx w.heap.size 61 #[.int .i64 kind, .int .i64 fr, .int .i64 to_, .int .i64 id, .slice A n c] := by rw [hwx]; exact (Blk.new w 61 _).alloc _
  have k1 : Blk wx (w.heap.size + 1) 36 #[.int .i64 0, .int .i64 0, .int .i64 0, .slice none 0 0] := by
    have h := Blk.new (w.alloc (.cells #[.int .i64 kind, .int .i64 fr, .int .i64 to_, .int .i64 id, .slice A n c] 61)) 36 #[.int .i64 0, .int .i64 0, .int .i64 0, .slice none 0 0]
    rw [hwx]
    simpa using h
  have hx2 := h.calm hbx
  have HX := hide h
  have HX2 := hide hx2
  have HOK := hide hx
  have HP1 := hide (fun W => party_any to_ W)
  have HP2 := hide (fun W => party_any fr W)
  have q0 := k0.cell 0
  have q1 := k0.cell 1
  have q2 := k0.cell 2
  have q3 := k0.cell 3
  have q4 := k0.cell 4
  have u0 := k1.cell 0
  have u1 := k1.cell 1
  have u2 := k1.cell 2
  have u3 := k1.cell 3
  have f0 := k1.frozen 0
  have f1 := k1.frozen 1
  have f2 := k1.frozen 2
  have f3 := k1.frozen 3
  have HK0 := hide k0
  have HK1 := hide k1
  have HBX := hide hbx
  have HWX := hide hwx
  have HBY := hide hbytes
  clear hbx hx2 h hx k0 k1 hwx hbytes
  by_cases h1 : kind ≠ 1 ∧ kind ≠ 2
  · have HF := hide (show moveS ⟨l.map (·.d), top⟩ ⟨kind, fr, to_, id, data⟩ = (⟨l.map (·.d), top⟩, ⟨3, 0, 0, []⟩) from if_pos h1)
    have e1 : (kind != 1) = true := by simpa using h1.1
    have e2 : (kind != 2) = true := by simpa using h1.2
    clear h1
    go_enter Try.func17, Try.ntmps17
    go_upto_region 1 with fail
    rw [← unhide HWX]
    go_wp2_with fail
    obtain ⟨w5, hw5⟩ : ∃ w5, w5 = ((((wx.setCell ⟨w.heap.size + 1, 0, none⟩ (.int .i64 3)).setCell ⟨w.heap.size + 1, 1, none⟩ (.int .i64 0)).setCell ⟨w.heap.size + 1, 2, none⟩ (.int .i64 0)).setCell ⟨w.heap.size + 1, 3, none⟩ (.slice none 0 0)) := ⟨_, rfl⟩
    have k5 : Blk w5 (w.heap.size + 1) 36 #[.int .i64 3, .int .i64 0, .int .i64 0, .slice none 0 0] := by rw [hw5]; exact blk_opened (unhide HK1) _ _ _ _
    have hO5 : Only (fun k => k = w.heap.size + 1) wx w5 := by rw [hw5]; exact only_put (only_put (only_put (only_put (Only.refl _ _) _ _) _ _) _ _) _ _
    rw [← hw5]
    have z0 := k5.cell 0
    have z1 := k5.cell 1
    have z2 := k5.cell 2
    have z3 := k5.cell 3
    clear hw5
    have hfin := mv_fin (m := m) (v := v) (w := w) (r := (⟨l.map (·.d), top⟩, ⟨3, 0, 0, []⟩)) (unhide HX2) (Nat.le_succ _) rfl rfl (unhide HBY) (Only.of_below (unhide HBX) fun x h1 h2 => by omega) (World.ownsRow_nil _ _ _ _) (unhide HK1) (Nat.le_succ _) hO5
    refine bodyPost_ret (v := .agg #[.int .i64 3, .int .i64 0, .int .i64 0, .slice none 0 0]) (by simp [results, Try.results17, go_sem, z0, z1, z2, z3]) rfl (by rw [unhide HF]; exact hfin)
  have hk : kind = 1 ∨ kind = 2 := by omega
  clear h1
  cases hp1 : partyB to_ with
  | false =>
    have HF := hide (show moveS ⟨l.map (·.d), top⟩ ⟨kind, fr, to_, id, data⟩ = (⟨l.map (·.d), top⟩, ⟨2, 0, 0, []⟩) by unfold moveS; rw [if_neg (show ¬ (kind ≠ 1 ∧ kind ≠ 2) by omega), if_pos (.inl hp1)])
    rw [hp1] at HP1
    clear hp1
    rcases hk with rfl | rfl
    · go_enter Try.func17, Try.ntmps17
      go_upto_region 1 with fail
      rw [← unhide HWX]
      go_wp2_with fail
      refine (unhide HP1 _).mono ?_
      rintro _ _ ⟨rfl, rfl⟩
      go_wp2_with fail
      obtain ⟨w5, hw5⟩ : ∃ w5, w5 = ((((wx.setCell ⟨w.heap.size + 1, 0, none⟩ (.int .i64 2)).setCell ⟨w.heap.size + 1, 1, none⟩ (.int .i64 0)).setCell ⟨w.heap.size + 1, 2, none⟩ (.int .i64 0)).setCell ⟨w.heap.size + 1, 3, none⟩ (.slice none 0 0)) := ⟨_, rfl⟩
      have k5 : Blk w5 (w.heap.size + 1) 36 #[.int .i64 2, .int .i64 0, .int .i64 0, .slice none 0 0] := by rw [hw5]; exact blk_opened (unhide HK1) _ _ _ _
      have hO5 : Only (fun k => k = w.heap.size + 1) wx w5 := by rw [hw5]; exact only_put (only_put (only_put (only_put (Only.refl _ _) _ _) _ _) _ _) _ _
      rw [← hw5]
      have z0 := k5.cell 0
      have z1 := k5.cell 1
      have z2 := k5.cell 2
      have z3 := k5.cell 3
      clear hw5
      have hfin := mv_fin (m := m) (v := v) (w := w) (r := (⟨l.map (·.d), top⟩, ⟨2, 0, 0, []⟩)) (unhide HX2) (Nat.le_succ _) rfl rfl (unhide HBY) (Only.of_below (unhide HBX) fun x h1 h2 => by omega) (World.ownsRow_nil _ _ _ _) (unhide HK1) (Nat.le_succ _) hO5
      refine bodyPost_ret (v := .agg #[.int .i64 2, .int .i64 0, .int .i64 0, .slice none 0 0]) (by simp [results, Try.results17, go_sem, z0, z1, z2, z3]) rfl (by rw [unhide HF]; exact hfin)
    · go_enter Try.func17, Try.ntmps17
      go_upto_region 1 with fail
      rw [← unhide HWX]
      go_wp2_with fail
      refine (unhide HP1 _).mono ?_
      rintro _ _ ⟨rfl, rfl⟩
      go_wp2_with fail
      obtain ⟨w5, hw5⟩ : ∃ w5, w5 = ((((wx.setCell ⟨w.heap.size + 1, 0, none⟩ (.int .i64 2)).setCell ⟨w.heap.size + 1, 1, none⟩ (.int .i64 0)).setCell ⟨w.heap.size + 1, 2, none⟩ (.int .i64 0)).setCell ⟨w.heap.size + 1, 3, none⟩ (.slice none 0 0)) := ⟨_, rfl⟩
      have k5 : Blk w5 (w.heap.size + 1) 36 #[.int .i64 2, .int .i64 0, .int .i64 0, .slice none 0 0] := by rw [hw5]; exact blk_opened (unhide HK1) _ _ _ _
      have hO5 : Only (fun k => k = w.heap.size + 1) wx w5 := by rw [hw5]; exact only_put (only_put (only_put (only_put (Only.refl _ _) _ _) _ _) _ _) _ _
      rw [← hw5]
      have z0 := k5.cell 0
      have z1 := k5.cell 1
      have z2 := k5.cell 2
      have z3 := k5.cell 3
      clear hw5
      have hfin := mv_fin (m := m) (v := v) (w := w) (r := (⟨l.map (·.d), top⟩, ⟨2, 0, 0, []⟩)) (unhide HX2) (Nat.le_succ _) rfl rfl (unhide HBY) (Only.of_below (unhide HBX) fun x h1 h2 => by omega) (World.ownsRow_nil _ _ _ _) (unhide HK1) (Nat.le_succ _) hO5
      refine bodyPost_ret (v := .agg #[.int .i64 2, .int .i64 0, .int .i64 0, .slice none 0 0]) (by simp [results, Try.results17, go_sem, z0, z1, z2, z3]) rfl (by rw [unhide HF]; exact hfin)
  | true =>
    rw [hp1] at HP1
    rcases hk with rfl | rfl
    · cases hp2 : partyB fr with
      | false =>
        have HF := hide (show moveS ⟨l.map (·.d), top⟩ ⟨1, fr, to_, id, data⟩ = (⟨l.map (·.d), top⟩, ⟨2, 0, 0, []⟩) by unfold moveS; rw [if_neg (show ¬ ((1 : Int) ≠ 1 ∧ (1 : Int) ≠ 2) by omega), if_pos (.inr ⟨rfl, hp2⟩)])
        rw [hp2] at HP2
        clear hp1 hp2
        go_enter Try.func17, Try.ntmps17
        go_upto_region 1 with fail
        rw [← unhide HWX]
        go_wp2_with fail
        refine (unhide HP1 _).mono ?_
        rintro _ _ ⟨rfl, rfl⟩
        go_wp2_with fail
        refine (unhide HP2 _).mono ?_
        rintro _ _ ⟨rfl, rfl⟩
        go_wp2_with fail
        obtain ⟨w5, hw5⟩ : ∃ w5, w5 = ((((wx.setCell ⟨w.heap.size + 1, 0, none⟩ (.int .i64 2)).setCell ⟨w.heap.size + 1, 1, none⟩ (.int .i64 0)).setCell ⟨w.heap.size + 1, 2, none⟩ (.int .i64 0)).setCell ⟨w.heap.size + 1, 3, none⟩ (.slice none 0 0)) := ⟨_, rfl⟩
        have k5 : Blk w5 (w.heap.size + 1) 36 #[.int .i64 2, .int .i64 0, .int .i64 0, .slice none 0 0] := by rw [hw5]; exact blk_opened (unhide HK1) _ _ _ _
        have hO5 : Only (fun k => k = w.heap.size + 1) wx w5 := by rw [hw5]; exact only_put (only_put (only_put (only_put (Only.refl _ _) _ _) _ _) _ _) _ _
        rw [← hw5]
        have z0 := k5.cell 0
        have z1 := k5.cell 1
        have z2 := k5.cell 2
        have z3 := k5.cell 3
        clear hw5
        have hfin := mv_fin (m := m) (v := v) (w := w) (r := (⟨l.map (·.d), top⟩, ⟨2, 0, 0, []⟩)) (unhide HX2) (Nat.le_succ _) rfl rfl (unhide HBY) (Only.of_below (unhide HBX) fun x h1 h2 => by omega) (World.ownsRow_nil _ _ _ _) (unhide HK1) (Nat.le_succ _) hO5
        refine bodyPost_ret (v := .agg #[.int .i64 2, .int .i64 0, .int .i64 0, .slice none 0 0]) (by simp [results, Try.results17, go_sem, z0, z1, z2, z3]) rfl (by rw [unhide HF]; exact hfin)
      | true =>
        have hno : ¬ (partyB to_ = false ∨ ((1 : Int) = 1 ∧ partyB fr = false)) := by rw [hp1, hp2]; simp
        rw [hp2] at HP2
        clear hp1 hp2
        by_cases hbig : 256 < data.length
        · have HF := hide (show moveS ⟨l.map (·.d), top⟩ ⟨1, fr, to_, id, data⟩ = (⟨l.map (·.d), top⟩, ⟨1, 0, 0, []⟩) by unfold moveS; rw [if_neg (show ¬ ((1 : Int) ≠ 1 ∧ (1 : Int) ≠ 2) by omega), if_neg hno, if_neg (show ¬ ((1 : Int) = 2) by omega), if_pos hbig])
          have hn3 : 256 < (n : Int) := by have := (unhide HOK).len; dsimp only at this; omega
          clear hno hbig
          go_enter Try.func17, Try.ntmps17
          go_upto_region 1 with fail
          rw [← unhide HWX]
          go_wp2_with fail
          refine (unhide HP1 _).mono ?_
          rintro _ _ ⟨rfl, rfl⟩
          go_wp2_with fail
          refine (unhide HP2 _).mono ?_
          rintro _ _ ⟨rfl, rfl⟩
          go_wp2_with fail
          obtain ⟨w5, hw5⟩ : ∃ w5, w5 = ((((wx.setCell ⟨w.heap.size + 1, 0, none⟩ (.int .i64 1)).setCell ⟨w.heap.size + 1, 1, none⟩ (.int .i64 0)).setCell ⟨w.heap.size + 1, 2, none⟩ (.int .i64 0)).setCell ⟨w.heap.size + 1, 3, none⟩ (.slice none 0 0)) := ⟨_, rfl⟩
          have k5 : Blk w5 (w.heap.size + 1) 36 #[.int .i64 1, .int .i64 0, .int .i64 0, .slice none 0 0] := by rw [hw5]; exact blk_opened (unhide HK1) _ _ _ _
          have hO5 : Only (fun k => k = w.heap.size + 1) wx w5 := by rw [hw5]; exact only_put (only_put (only_put (only_put (Only.refl _ _) _ _) _ _) _ _) _ _
          rw [← hw5]
          have z0 := k5.cell 0
          have z1 := k5.cell 1
          have z2 := k5.cell 2
          have z3 := k5.cell 3
          clear hw5
          have hfin := mv_fin (m := m) (v := v) (w := w) (r := (⟨l.map (·.d), top⟩, ⟨1, 0, 0, []⟩)) (unhide HX2) (Nat.le_succ _) rfl rfl (unhide HBY) (Only.of_below (unhide HBX) fun x h1 h2 => by omega) (World.ownsRow_nil _ _ _ _) (unhide HK1) (Nat.le_succ _) hO5
          refine bodyPost_ret (v := .agg #[.int .i64 1, .int .i64 0, .int .i64 0, .slice none 0 0]) (by simp [results, Try.results17, go_sem, z0, z1, z2, z3]) rfl (by rw [unhide HF]; exact hfin)
        · have hdl := (unhide HOK).len
          dsimp only at hdl
          have hn3 : (n : Int) ≤ 256 := by omega
          have hn4 : n ≤ 256 := by omega
          have HF := hide (show moveS ⟨l.map (·.d), top⟩ ⟨1, fr, to_, id, data⟩ = (⟨l.map (·.d) ++ [⟨fr, to_, data⟩], top⟩, ⟨0, l.length, n, []⟩) by unfold moveS; rw [if_neg (show ¬ ((1 : Int) ≠ 1 ∧ (1 : Int) ≠ 2) by omega), if_neg hno, if_neg (show ¬ ((1 : Int) = 2) by omega), if_neg hbig]; dsimp only; rw [List.length_map, hdl])
          have HPO := hide (officePost_any base g b m v l top wx.drew fr to_ A n c data B ((unhide HX2).calm ((Below.refl _ _).drew)) hlm hdl (by omega) ((unhide HOK).rd.below (((unhide HBX).drew).mono hB)) (by show B ≤ wx.heap.size; omega) (by show base ≤ wx.heap.size; omega) (unhide HOK).wf.1 (unhide HOK).wf.2)
          clear hno hbig hdl
          go_enter Try.func17, Try.ntmps17
          go_upto_region 1 with fail
          rw [← unhide HWX]
          go_wp2_with fail
          refine (unhide HP1 _).mono ?_
          rintro _ _ ⟨rfl, rfl⟩
          go_wp2_with fail
          refine (unhide HP2 _).mono ?_
          rintro _ _ ⟨rfl, rfl⟩
          go_wp2_with fail
          clear q0 q1 q2 q3 q4 u0 u1 u2 u3 f0 f1 f2 f3
          obtain ⟨cs, hcs⟩ : ∃ cs, cs = #[Value.int .i64 1, .int .i64 fr, .int .i64 to_, .int .i64 id, .slice A n c] := ⟨_, rfl⟩
          have r1 : ∀ n2 : HasL w.heap.size cs, n2.W.cell? ⟨w.heap.size, 1, none⟩ = some (.int .i64 fr) := fun n2 => by rw [n2.h.cell 1, hcs]; rfl
          have r2 : ∀ n2 : HasL w.heap.size cs, n2.W.cell? ⟨w.heap.size, 2, none⟩ = some (.int .i64 to_) := fun n2 => by rw [n2.h.cell 2, hcs]; rfl
          have r4 : ∀ n2 : HasL w.heap.size cs, n2.W.cell? ⟨w.heap.size, 4, none⟩ = some (.slice A n c) := fun n2 => by rw [n2.h.cell 4, hcs]; rfl
          have hk0 : Blk wx.drew w.heap.size 61 cs := by rw [hcs]; exact (unhide HK0).drew
          have hk1 := (unhide HK1).drew
          have HK0d := hide hk0
          have HK1d := hide hk1
          clear hcs hk1
          refine wp_region_weak (C := fun w' => ∃ n2 : HasL w.heap.size cs, w' = n2.W) [0, 1, 2, 3, 4, 5, 6, 8, 9, 10] [7, 11, 12] (by kernel_rfl) (by kernel_rfl) (by intro c a d v w h; cases d <;> exact h) ⟨⟨_, hk0⟩, rfl⟩ ?_
          haveI hne : Nonempty (HasL w.heap.size cs) := ⟨⟨_, hk0⟩⟩
          clear hk0
          simp only [pickOps, List.map_cons, List.map_nil, List.getD_cons_zero, List.getD_cons_succ]
          repeat (go_big_quiet_step (fail))
          refine wpQuiet_nil ?_
          simp only [wpAl]
          obtain ⟨wd, hwd⟩ : ∃ wd, wd = wx.drew := ⟨_, rfl⟩
          rw [← hwd] at HPO HK0d HK1d
          rw [← hwd]
          have HWD := hide hwd
          clear hwd
          go_wp2_with fail
          refine (unhide HPO).mono ?_
          rintro _ w2 ⟨v2, pp, rfl, hp2, hx2, ho2, _, _⟩
          have hgl := (unhide HX).blk.lt
          have hvl : ∀ k, v.ownBlock = some k → k < w.heap.size := fun k hk => ((unhide HX).own.lt k hk).2
          have hnD : ∀ q, w.heap.size ≤ q → ¬ (q = g ∨ v.ownBlock = some q) := fun q hq e => by
            rcases e with e | e
            · omega
            · have := hvl q e; omega
          have HK02 := hide ((unhide HK0d).only ho2 (hnD _ (Nat.le_refl _)))
          have HK12 := hide ((unhide HK1d).only ho2 (hnD _ (Nat.le_succ _)))
          have HX2' := hide hx2
          have HPD := hide hp2
          have HNN := hide (show ∀ q ∈ l ++ [pp], q.n ≤ 1000000 from fun q hq => by
            rcases List.mem_append.1 hq with h1 | h1
            · exact unhide HBY q h1
            · rw [List.mem_singleton] at h1
              subst h1
              have h2 := (hx2.rows q (by simp)).1
              have h3 : q.d.data.length = q.n := by simpa using h2
              rw [hp2] at h3
              have h4 := (unhide HOK).len
              dsimp only at h3 h4
              omega)
          have HOD := hide (show Only (fun k => k = g ∨ k = b ∨ v.ownBlock = some k) w w2 from by
            have h1 : Only (fun k => k = g ∨ k = b ∨ v.ownBlock = some k) w wd := by rw [unhide HWD]; exact (Only.of_below (unhide HBX) fun x h1 h2 => by omega).drew
            exact h1.trans ho2 (fun _ _ h => by rcases h with h | h; exact .inl h; exact .inr (.inr h)))
          have y0 := (unhide HK12).cell 0
          have y1 := (unhide HK12).cell 1
          have y2 := (unhide HK12).cell 2
          have y3 := (unhide HK12).cell 3
          have g0 := (unhide HK12).frozen 0
          have g1 := (unhide HK12).frozen 1
          have g2 := (unhide HK12).frozen 2
          have g3 := (unhide HK12).frozen 3
          clear hx2 hp2 ho2 hgl hvl hnD
          go_wp2_with fail
          refine ⟨⟨⟨_, unhide HK02⟩, rfl⟩, ?_⟩
          go_wp2_with fail
          refine ⟨⟨⟨_, unhide HK02⟩, rfl⟩, ?_⟩
          go_wp2_with fail
          obtain ⟨w5, hw5⟩ : ∃ w5, w5 = ((((w2.setCell ⟨w.heap.size + 1, 0, none⟩ (.int .i64 0)).setCell ⟨w.heap.size + 1, 1, none⟩ (.int .i64 l.length)).setCell ⟨w.heap.size + 1, 2, none⟩ (.int .i64 n)).setCell ⟨w.heap.size + 1, 3, none⟩ (.slice none 0 0)) := ⟨_, rfl⟩
          have k5 : Blk w5 (w.heap.size + 1) 36 #[.int .i64 0, .int .i64 l.length, .int .i64 n, .slice none 0 0] := by rw [hw5]; exact blk_opened (unhide HK12) _ _ _ _
          have hO5 : Only (fun k => k = w.heap.size + 1) w2 w5 := by rw [hw5]; exact only_put (only_put (only_put (only_put (Only.refl _ _) _ _) _ _) _ _) _ _
          rw [← hw5]
          refine ⟨⟨⟨_, (unhide HK02).only hO5 (fun e => by omega)⟩, rfl⟩, ?_⟩
          have z0 := k5.cell 0
          have z1 := k5.cell 1
          have z2 := k5.cell 2
          have z3 := k5.cell 3
          clear hw5
          have hfin := mv_fin (m := m) (v := v) (w := w) (r := (⟨l.map (·.d) ++ [⟨fr, to_, data⟩], top⟩, ⟨0, l.length, n, []⟩)) (unhide HX2') (Nat.le_succ _) (by rw [List.map_append]; simp [unhide HPD]) rfl (unhide HNN) (unhide HOD) (World.ownsRow_nil _ _ _ _) (unhide HK12) (Nat.le_succ _) hO5
          go_wp2_with fail
          refine bodyPost_ret (v := .agg #[.int .i64 0, .int .i64 l.length, .int .i64 n, .slice none 0 0]) (by simp [results, Try.results17, go_sem, z0, z1, z2, z3]) rfl (by rw [unhide HF]; exact hfin)
    · have hno : ¬ (partyB to_ = false ∨ ((2 : Int) = 1 ∧ partyB fr = false)) := by rw [hp1]; simp
      have HOP := hide (officeOpen_any base g b m v l top wx to_ id (unhide HX2) hlm hm (by omega) (unhide HBY) (unhide HOK).wf.2)
      have HF0 := hide (show moveS ⟨l.map (·.d), top⟩ ⟨2, fr, to_, id, data⟩ = if (openS (l.map (·.d)) top to_ id).2.2 ≠ 0 then (⟨l.map (·.d), (openS (l.map (·.d)) top to_ id).1⟩, ⟨(openS (l.map (·.d)) top to_ id).2.2, 0, 0, []⟩)
          else (⟨l.map (·.d), (openS (l.map (·.d)) top to_ id).1⟩, ⟨0, id, (openS (l.map (·.d)) top to_ id).2.1.length, (openS (l.map (·.d)) top to_ id).2.1⟩) by unfold moveS; rw [if_neg (show ¬ ((2 : Int) ≠ 1 ∧ (2 : Int) ≠ 2) by omega), if_neg hno, if_pos rfl])
      clear hno hp1
      generalize openS (l.map (·.d)) top to_ id = r at HOP HF0
      obtain ⟨top2, bs, cd⟩ := r
      dsimp only at HF0
      go_enter Try.func17, Try.ntmps17
      go_upto_region 1 with fail
      rw [← unhide HWX]
      go_wp2_with fail
      refine (unhide HP1 _).mono ?_
      rintro _ _ ⟨rfl, rfl⟩
      go_wp2_with fail
      refine (unhide HOP).mono ?_
      rintro _ w2 ⟨A2, n2, c2, rfl, hrow2, hx2, ho2⟩
      dsimp only at hrow2 hx2
      have hgx := (unhide HX).blk.lt
      have hbx2 := (unhide HX).map.lt
      have k02 := (unhide HK0).only ho2 (fun e => by omega)
      have k12 := (unhide HK1).only ho2 (fun e => by omega)
      have x3 := k02.cell 3
      have y0 := k12.cell 0
      have y1 := k12.cell 1
      have y2 := k12.cell 2
      have y3 := k12.cell 3
      have g0 := k12.frozen 0
      have g1 := k12.frozen 1
      have g2 := k12.frozen 2
      have g3 := k12.frozen 3
      have HK12 := hide k12
      have HX3 := hide hx2
      have HR2 := hide (own_mono hrow2 (show w.heap.size ≤ wx.heap.size by omega))
      have HO2 := hide (show Only (fun k => k = g ∨ k = b ∨ v.ownBlock = some k) w w2 from (Only.of_below (unhide HBX) fun x h1 h2 => by omega).trans ho2 (fun _ _ h => .inr (.inl h)))
      have HL := hide (show bs.length = n2 by have := hrow2.1; simpa using this)
      clear k02 k12 hx2 hrow2 ho2 u0 u1 u2 u3 f0 f1 f2 f3 q0 q1 q2 q3 q4
      by_cases hcd : cd = 0
      · subst hcd
        have HF := hide (show moveS ⟨l.map (·.d), top⟩ ⟨2, fr, to_, id, data⟩ = (⟨l.map (·.d), top2⟩, ⟨0, id, n2, bs⟩) by rw [unhide HF0, if_neg (by simp), unhide HL])
        go_wp2_with fail
        obtain ⟨w5, hw5⟩ : ∃ w5, w5 = ((((w2.setCell ⟨w.heap.size + 1, 0, none⟩ (.int .i64 0)).setCell ⟨w.heap.size + 1, 1, none⟩ (.int .i64 id)).setCell ⟨w.heap.size + 1, 2, none⟩ (.int .i64 n2)).setCell ⟨w.heap.size + 1, 3, none⟩ (.slice A2 n2 c2)) := ⟨_, rfl⟩
        have k5 : Blk w5 (w.heap.size + 1) 36 #[.int .i64 0, .int .i64 id, .int .i64 n2, .slice A2 n2 c2] := by rw [hw5]; exact blk_opened (unhide HK12) _ _ _ _
        have hO5 : Only (fun k => k = w.heap.size + 1) w2 w5 := by rw [hw5]; exact only_put (only_put (only_put (only_put (Only.refl _ _) _ _) _ _) _ _) _ _
        rw [← hw5]
        have z0 := k5.cell 0
        have z1 := k5.cell 1
        have z2 := k5.cell 2
        have z3 := k5.cell 3
        clear hw5
        have hfin := mv_fin (m := m) (v := v) (w := w) (r := (⟨l.map (·.d), top2⟩, ⟨0, id, n2, bs⟩)) (unhide HX3) (Nat.le_refl _) rfl rfl (unhide HBY) (unhide HO2) (unhide HR2) (unhide HK12) (Nat.le_succ _) hO5
        refine bodyPost_ret (v := .agg #[.int .i64 0, .int .i64 id, .int .i64 n2, .slice A2 n2 c2]) (by simp [results, Try.results17, go_sem, z0, z1, z2, z3]) rfl (by rw [unhide HF]; exact hfin)
      · have HF := hide (show moveS ⟨l.map (·.d), top⟩ ⟨2, fr, to_, id, data⟩ = (⟨l.map (·.d), top2⟩, ⟨cd, 0, 0, []⟩) by rw [unhide HF0, if_pos hcd])
        have hcb : (cd != 0) = true := by simpa using hcd
        clear hcd
        go_wp2_with fail
        obtain ⟨w5, hw5⟩ : ∃ w5, w5 = ((((w2.setCell ⟨w.heap.size + 1, 0, none⟩ (.int .i64 cd)).setCell ⟨w.heap.size + 1, 1, none⟩ (.int .i64 0)).setCell ⟨w.heap.size + 1, 2, none⟩ (.int .i64 0)).setCell ⟨w.heap.size + 1, 3, none⟩ (.slice none 0 0)) := ⟨_, rfl⟩
        have k5 : Blk w5 (w.heap.size + 1) 36 #[.int .i64 cd, .int .i64 0, .int .i64 0, .slice none 0 0] := by rw [hw5]; exact blk_opened (unhide HK12) _ _ _ _
        have hO5 : Only (fun k => k = w.heap.size + 1) w2 w5 := by rw [hw5]; exact only_put (only_put (only_put (only_put (Only.refl _ _) _ _) _ _) _ _) _ _
        rw [← hw5]
        have z0 := k5.cell 0
        have z1 := k5.cell 1
        have z2 := k5.cell 2
        have z3 := k5.cell 3
        clear hw5
        have hfin := mv_fin (m := m) (v := v) (w := w) (r := (⟨l.map (·.d), top2⟩, ⟨cd, 0, 0, []⟩)) (unhide HX3) (Nat.le_refl _) rfl rfl (unhide HBY) (unhide HO2) (World.ownsRow_nil _ _ _ _) (unhide HK12) (Nat.le_succ _) hO5
        refine bodyPost_ret (v := .agg #[.int .i64 cd, .int .i64 0, .int .i64 0, .slice none 0 0]) (by simp [results, Try.results17, go_sem, z0, z1, z2, z3]) rfl (by rw [unhide HF]; exact hfin)
end Go.Proofs.Ytiljallignlbgaa
