/- Contracts and plain facts, set together by program out of smaller texts. Conditions: none beyond what each theorem states. -/
import Derived.BigQuiet
import Derived.Test.YtbolcebmbpepdaaGreatDoorM42
import Derived.Test.YtbolcebmbpepdaaGreatDoorM12
import Derived.Test.YtbolcebmbpepdaaGreatDoorM01
namespace Go.Proofs.YtbolcebmbpepdaaGreatDoor
set_option linter.unusedVariables false
section
open Go.RowKit
structure PurD where
 asked : Int
 stk : Stk
def PurD.cells (p : PurD) : List Value := [.int .i64 p.asked, .int .i64 p.stk.code, .int .i64 p.stk.id, .int .i64 p.stk.free, .int .i64 p.stk.held, .int .i64 p.stk.used]
theorem PurD.cells_len (p : PurD) : p.cells.length = 6 := rfl
structure PuR where
 ps : List PurD
 A : Option Addr
 c : Nat
def PuR.val (r : PuR) : Value := .slice r.A r.ps.length r.c
def Pu2 (w : World) (B : Nat) (v : Value) (P : List (List PurD)) : Prop :=
 ∃ A c, ∃ rs : List PuR, v = .slice A rs.length c ∧ Reads w B 1 A rs.length (rs.map PuR.val) ∧ (∀ r ∈ rs, Reads w B 6 r.A r.ps.length (r.ps.flatMap PurD.cells)) ∧ rs.map (·.ps) = P
theorem Pu2.below {w w' : World} {B : Nat} {v : Value} {P : List (List PurD)} (h : Pu2 w B v P) (hb : Below B w w') : Pu2 w' B v P := by
 obtain ⟨A, c, rs, h1, h2, h3, h4⟩ := h
 exact ⟨A, c, rs, h1, h2.below hb, fun r hr => (h3 r hr).below hb, h4⟩
theorem Pu2.more {w : World} {B B' : Nat} {v : Value} {P : List (List PurD)} (h : Pu2 w B v P) (hb : B ≤ B') : Pu2 w B' v P := by
 obtain ⟨A, c, rs, h1, h2, h3, h4⟩ := h
 exact ⟨A, c, rs, h1, h2.more hb, fun r hr => (h3 r hr).more hb, h4⟩
def PuOwn (w : World) (base : Nat) (v : Value) (rs : List PuR) : Prop := w.ownsRow base 38 1 v rs.length (rs.map PuR.val) ∧ ∀ r ∈ rs, w.ownsRow base 42 6 r.val r.ps.length (r.ps.flatMap PurD.cells)
section
variable {w w' : World} {base : Nat} {v v' : Value} {rs : List PuR}
theorem PuOwn.nil (w : World) (base : Nat) : PuOwn w base (.slice none 0 0) [] := ⟨World.ownsRow_nil _ _ _ _, fun _ h => by cases h⟩
theorem PuOwn.calm (h : PuOwn w base v rs) (hb : Below w.heap.size w w') : PuOwn w' base v rs := ⟨zAi h.1 hb, fun r hr => zAi (h.2 r hr) hb⟩
theorem PuOwn.push {r : PuR} (h : PuOwn w base v rs) (hr : w.ownsRow base 42 6 r.val r.ps.length (r.ps.flatMap PurD.cells)) (hg : w.grownBy w' v.ownBlock) (hown : w'.ownsRow base 38 1 v' (rs.length + 1) (rs.map PuR.val ++ [r.val])) : PuOwn w' base v' (rs ++ [r]) := by
 refine ⟨?_, fun x hx => ?_⟩
 ·rw [List.length_append, List.map_append]
  exact hown
 ·rcases List.mem_append.1 hx with h1 | h1
  ·exact zDe (h.2 x h1) h.1 (by decide) hg
  ·rw [List.mem_singleton] at h1
   subst h1
   exact zDe hr h.1 (by decide) hg
theorem PuOwn.far {e size n : Nat} {u : Value} {xs : List Value} {b : Nat} (h : PuOwn w base v rs) (hu : w.ownsRow b e size u n xs) (h1 : 38 ≠ e) (h2 : 42 ≠ e) (hg : w.grownBy w' u.ownBlock) : PuOwn w' base v rs :=
 ⟨zDe h.1 hu h1 hg, fun r hr => zDe (h.2 r hr) hu h2 hg⟩
theorem PuOwn.rd (h : PuOwn w base v rs) : Pu2 w w.heap.size v (rs.map (·.ps)) := by
 obtain ⟨A, c, rfl, _⟩ := zAf h.1
 exact ⟨A, c, rs, rfl, Reads.of_own h.1, fun r hr => Reads.of_own (h.2 r hr), rfl⟩
end
theorem zHf {b base size n : Nat} {e : TypeId} {v : Value} {xs : List Value} {w2 w w' : World} (hc : Below b w2 w) (ho : w.ownsRow base e size v n xs) (hg : w.grownBy w' v.ownBlock) (hb : b ≤ base) (hw : b ≤ w.heap.size) : Below b w2 w' :=
 hc.trans (((Only.refl _ _).grown hg (D := fun k => v.ownBlock = some k) (fun g hg _ => hg)).to_below (fun x hx _ hd => by have := (ho.lt x hd).1; omega) hw)
def zEt (c : Cfg) (S : WS) (i : Nat) : List PurD := (List.range c.m).map fun k => ⟨(S.ask i).getD k 0, (S.sh i k).stock 0 0⟩
def resP (c : Cfg) (S : WS) : List Int := (List.range c.m).map fun j => (S.bk j).reserve
def zLc (c : Cfg) (S : WS) : List (List PurD) := (List.range c.n).map (zEt c S)
def zQu (c : Cfg) (S : WS) : List (List (List Ent)) := (List.range c.n).map S.st
theorem zFe {α : Type} (f : Nat → α) (k : Nat) : (List.range (k + 1)).map f = (List.range k).map f ++ [f k] := by
 rw [List.range_succ, List.map_append, List.map_singleton]
def zDc (c : Cfg) (y : Lay) (i : Nat) : Value := .slice (some ⟨(y.br i).t, 0, none⟩) c.ln c.ln
theorem zOi {W : World} {c : Cfg} {y : Lay} {S : WS} {K base : Nat} {ow : Nat → Tag} (h : PW W c y S K base ow) (hl : ∀ i, (S.st i).length = c.ln) : ∀ k, k ≤ c.n →
    ∃ ts : List TabR, ts.length = k ∧ ts.map TabR.val = (List.range k).map (zDc c y) ∧ ts.map (fun t => t.rs.map EnR.es) = (List.range k).map S.st ∧ ∀ t ∈ ts, TabRd W W.heap.size t
 | 0, _ => ⟨[], rfl, rfl, rfl, fun t ht => by cases ht⟩
 | k + 1, hk => by
  obtain ⟨ts, h1, h2, h3, h4⟩ := zOi h hl k (by omega)
  obtain ⟨⟨SS, s1, s2, s3⟩, _⟩ := (show k < c.n → StRow W base (y.br k).t (S.st k) (fun q => ow q = .str k) from h.pc (.str k)) (by omega)
  have hSS : SS.length = c.ln := by have := congrArg List.length s2; rw [List.length_map, hl k] at this; exact this
  refine ⟨ts ++ [⟨SS, some ⟨(y.br k).t, 0, none⟩, c.ln⟩], by rw [List.length_append, h1]; rfl, ?_, ?_, fun t ht => ?_⟩
  ·rw [zFe, List.map_append, h2, List.map_singleton]
   congr 2
   unfold TabR.val zDc
   dsimp only
   rw [hSS]
  ·rw [zFe, List.map_append, h3, List.map_singleton]
   congr 2
  ·rcases List.mem_append.1 ht with ht | ht
   ·exact h4 t ht
   ·rw [List.mem_singleton] at ht
    subst ht
    refine ⟨?_, fun r hr => ?_⟩
    ·have := zCh s1.blk s1.blk.lt
     rw [List.length_map] at this
     exact this
    ·have hr2 := s1.rows r hr
     unfold EnR.val at hr2
     exact Reads.of_own hr2
theorem zZl {W : World} {c : Cfg} {y : Lay} {S : WS} {K base b : Nat} {ow : Nat → Tag} {v : Value} (h : PW W c y S K base ow) (hl : ∀ i, (S.st i).length = c.ln) (ho : W.ownsRow b 78 1 v c.n ((List.range c.n).map (zDc c y))) : St3 W W.heap.size v (zQu c S) := by
 obtain ⟨ts, h1, h2, h3, h4⟩ := zOi h hl c.n (Nat.le_refl _)
 obtain ⟨A, cc, rfl, _⟩ := zAf ho
 refine ⟨A, cc, ts, by rw [h1], ?_, h4, h3⟩
 rw [h1, h2]
 exact Reads.of_own ho
def zZd (w : World) (c : Cfg) (ss : List StpI) (e : Ending) (w' : World) : Prop :=
 (zAh c = false ∧ e = .returned (.tuple #[.slice none 0 0, .slice none 0 0, .slice none 0 0, .int .i64 4]) ∧ Below w.heap.size w w') ∨
 (zAh c = true ∧ 300 < ss.length ∧ e = .returned (.tuple #[.slice none 0 0, .slice none 0 0, .slice none 0 0, .int .i64 1]) ∧ Below w.heap.size w w') ∨
 (zAh c = true ∧ ss.length ≤ 300 ∧ ∃ A n c1 u v, e = .returned (.tuple #[.slice A n c1, u, v, .int .i64 0]) ∧ n = c.m ∧ Reads w' w'.heap.size 1 A n ((resP c (runW c ss (WS.new c)).2).map (.int .i64)) ∧
  Pu2 w' w'.heap.size u (zLc c (runW c ss (WS.new c)).2) ∧ St3 w' w'.heap.size v (zQu c (runW c ss (WS.new c)).2) ∧ Below w.heap.size w w')
theorem yAm : ∃ i, Tryz.prog.info? 42 = some i ∧ i.zero = some (.agg #[.int .i64 0, .int .i64 0, .int .i64 0, .int .i64 0, .int .i64 0, .int .i64 0]) ∧ i.size = 6 ∧ i.bytes = 48 := zEm (by kernel_rfl)
theorem zYd : ∃ i, Tryz.prog.info? 38 = some i ∧ i.zero = some (.slice none 0 0) ∧ i.size = 1 ∧ i.bytes = 24 := zEm (by kernel_rfl)
theorem zYp : ∃ i, Tryz.prog.info? 78 = some i ∧ i.zero = some (.slice none 0 0) ∧ i.size = 1 ∧ i.bytes = 24 := zEm (by kernel_rfl)
theorem yEb : ∃ i, Tryz.prog.info? 3 = some i ∧ i.zero = some (.int .i64 0) ∧ i.size = 1 ∧ i.bytes = 8 := zEm (by kernel_rfl)
end
section
open Go.RowKit
def treeE : OT := (.fork (.next 2 (.fork (.next 3 (.next 9 (.next 10 (.next 11 (.next 12 .done))))) (.next 9 (.next 3 (.next 10 (.next 11 (.next 12 .done))))))) (.next 9 (.next 2 (.next 3 (.next 10 (.next 11 (.next 12 .done)))))))
section
variable {w : World} {c : Cfg}
set_option maxRecDepth 100000 in
set_option maxHeartbeats 4000000 in
theorem zUr (A : Option Addr) (n cc : Nat) (ss : List StpI) (B : Nat) (hl : ss.length = n) (hm : n ≤ maxLen) (hr : Reads w B 8 A n (ss.flatMap StpI.cells)) (hwf : ∀ s ∈ ss, zFm s) (hc : c.ok w B) (hB : B ≤ w.heap.size) (hT : OrdT w) (hg : 0 < w.heap.size) :
    Calls Tryz.prog 10 #[c.val, .slice A n cc] w (zZd w c ss) := by
 obtain ⟨cb, hcb⟩ : ∃ p, p = w.heap.size := ⟨_, rfl⟩
 obtain ⟨wx, hwx⟩ : ∃ wx, wx = w.alloc (.cells c.cells.toArray 24) := ⟨_, rfl⟩
 have hbx : Below w.heap.size w wx := by rw [hwx]; exact (Below.refl _ _).alloc (Nat.le_refl _) _
 have kc : Blk wx cb 24 c.cells.toArray := by rw [hwx, hcb]; exact Blk.new _ _ _
 have HPL := hide (zUd A n cc ss B hl hm (hr.below (hbx.mono hB)) hwf (hc.below (hbx.mono hB)) (Nat.le_trans hB hbx.size) (fun j hj => (hbx.cell (p := ⟨_, j, none⟩) hg).trans (hT j hj)) (Nat.lt_of_lt_of_le hg hbx.size))
 have d0 : wx.cell? ⟨cb, 0, none⟩ = some (.int .i64 c.br) := kc.cell 0
 have d1 : wx.cell? ⟨cb, 1, none⟩ = some (.slice c.la.A c.la.n c.la.c) := kc.cell 1
 have d2 : wx.cell? ⟨cb, 2, none⟩ = some (.int .i64 c.tk) := kc.cell 2
 have d3 : wx.cell? ⟨cb, 3, none⟩ = some (.slice c.mi.A c.mi.n c.mi.c) := kc.cell 3
 have d4 : wx.cell? ⟨cb, 4, none⟩ = some (.int .i64 c.cap) := kc.cell 4
 have HBX := hide hbx
 have HCB := hide hcb
 have HWX := hide hwx
 have HLL := hide hl
 obtain ⟨iI, hiI, hzI, hsI, hyI⟩ := yEb
 obtain ⟨iP, hiP, hzP, hsP, hyP⟩ := yAm
 obtain ⟨iQ, hiQ, hzQ, hsQ, hyQ⟩ := zYd
 obtain ⟨iS, hiS, hzS, hsS, hyS⟩ := zYp
 unfold Cfg.val at HPL ⊢
 clear hbx kc hcb hwx hl hr hwf hT hc hB hg hm
 go_enter Tryz.func10, Tryz.ntmps10
 go_upto_region 1 with fail
 rw [show (#[.int .i64 c.br, .slice c.la.A c.la.n c.la.c, .int .i64 c.tk, .slice c.mi.A c.mi.n c.mi.c, .int .i64 c.cap] : Array Value) = c.cells.toArray from rfl, ← zAa HWX, ← zAa HCB]
 go_wp2_with fail
 refine (zAa HPL).mono ?_
 rintro _ w1 hp
 rcases hp with ⟨hcf, rfl, hb⟩ | ⟨hcf, hn, rfl, hb⟩ | ⟨hcf, hn, v, outs, y, K, base, ow, rfl, hd, hp⟩
 ·have HF := hide hcf
  have HB := hide hb
  clear hcf hb
  go_wp2_with fail
  (try simp only [Exit.inBlock, Exit.then])
  refine bodyPost_ret (zKa rfl _ _ _) rfl ?_
  exact .inl ⟨zAa HF, rfl, (zAa HBX).trans ((zAa HB).mono (zAa HBX).size)⟩
 ·have HF := hide hcf
  have HN := hide hn
  have HB := hide hb
  clear hcf hb hn
  go_wp2_with fail
  (try simp only [Exit.inBlock, Exit.then])
  refine bodyPost_ret (zKa rfl _ _ _) rfl ?_
  exact .inr (.inl ⟨zAa HF, zAa HN, rfl, (zAa HBX).trans ((zAa HB).mono (zAa HBX).size)⟩)
 ·obtain ⟨S, hS⟩ : ∃ S, S = (runW c ss (WS.new c)).2 := ⟨_, rfl⟩
  have hSok : S.ok c (0 + ss.length) := by rw [hS]; exact zQx hcf ss (WS.new c) 0 (zNz hcf)
  rw [← hS] at hp
  obtain ⟨⟨hn1, hn2, hn8⟩, hln, _, ⟨hm1, hm3⟩, _⟩ := zAj hcf
  have HW := hide hp.pw
  have HBL := hide ((zAa HBX).trans (hp.bel.mono (zAa HBX).size))
  obtain ⟨con, ⟨bcs, bk1, bk2⟩, ⟨kcs, kk1, kk2⟩, cbrs, _⟩ := (show ConAt w1 c y (fun k => ow k = .con) from hp.pw.pc .con)
  have hsb : ∀ i, i < c.n → bcs[i]? = some (.pointer (some ⟨(y.br i).b, 0, none⟩)) := bk2
  have HCON := hide con
  have HB1 := hide (And.intro bk1 hsb)
  have HK1 := hide (And.intro kk1 kk2)
  have HBR := hide cbrs
  have HSE := hide hS
  have HOK := hide hSok
  have HF := hide hcf
  have HN := hide hn
  obtain ⟨nn, hnn⟩ : ∃ nn, nn = c.n := ⟨_, rfl⟩
  obtain ⟨mm, hmm⟩ : ∃ mm, mm = c.m := ⟨_, rfl⟩
  rw [← hnn] at hn2 hn8
  rw [← hmm] at hm1 hm3
  have HNN := hide hnn
  have HMM := hide hmm
  obtain ⟨b1, hb1⟩ : ∃ b1, b1 = w1.heap.size := ⟨_, rfl⟩
  have HBB := hide hb1
  have c5 : w1.cell? ⟨y.hb, 5, none⟩ = some (.slice (some ⟨y.bb, 0, none⟩) nn y.bc) := by rw [hnn]; exact con.cell 5
  have c6 : w1.cell? ⟨y.hb, 6, none⟩ = some (.slice (some ⟨y.kb, 0, none⟩) mm y.kc) := by rw [hmm]; exact con.cell 6
  have HR0 := hide (show w1.ownsRow b1 3 1 (.slice none 0 0) 0 (((List.range 0).map fun j => (S.bk j).reserve).map (.int .i64)) from World.ownsRow_nil _ _ _ _)
  have HBE0 := hide (show Below b1 w1 w1 from Below.refl _ _)
  clear hS hSok hp con bk1 bk2 kk1 kk2 cbrs hsb hn1 hln hcf hn hd d0 d1 d2 d3 d4 hnn hmm hb1 HPL
  go_wp2_with fail
  go_loopw [4, 31] (fun r i wr => ∃ j : Nat, j ≤ mm ∧ i = .int .i64 j ∧ Hid (wr.ownsRow b1 3 1 r j (((List.range j).map fun j => (S.bk j).reserve).map (.int .i64))) ∧ Hid (Below b1 w1 wr)) (fun _ i _ => mm - (intOf i).toNat)
  case atStart => exact ⟨0, Nat.zero_le _, rfl, HR0, HBE0⟩
  case round =>
   obtain ⟨j, hj, rfl, HR, HBE⟩ := hrel
   by_cases hlt : j < mm
   ·have hji : (j : Int) < (mm : Int) := by omega
    have hbe := zAa HBE
    rw [zAa HBB] at hbe
    have hpw := (zAa HW).calm hbe
    obtain ⟨p, hpg, hbk, _⟩ := ((show j < c.m → BkRow wr base (y.bg j) c.n c.cap c.tk (S.bk j) (fun k => ow k = .bk j) from hpw.pc (.bk j)) (by rw [← zAa HMM]; exact hlt)).at_
    have e1 : wr.cell? ⟨y.kb, j, none⟩ = some (.pointer (some ⟨y.bg j, 0, none⟩)) := (((zAa HK1).1.below hbe (zAa HK1).1.lt).cell j).trans ((zAa HK1).2 j (by rw [← zAa HMM]; exact hlt))
    have e2 : wr.cell? ⟨y.bg j, 3, none⟩ = some (.int .i64 (S.bk j).reserve) := by rw [← hpg]; exact hbk.blk.cell 3
    obtain ⟨rA, rc, hv, _⟩ := zAf (zAa HR)
    subst hv
    have HMQ := hide (show (j + 1) * 8 ≤ 140737488355328 by omega)
    have hsz : b1 ≤ wr.heap.size := by rw [zAa HBB]; exact hbe.size
    clear hbe hpw hpg hbk
    go_wp2_with (first
     | (at_builtin; (refine zAl wr rfl (.tmp 35) (.tmp 40) _ rfl b1 3 iI _ 1 8 Tryz.underlying22 hiI hzI hsI hyI rfl (by omega) (by omega) _ j _ (zAa HR) rfl _ 1 _ rfl rfl rfl (by simp [Value.oneCell']) (zAa HMQ) hsz ?_); intro g7 cap7 w7 hg7 hown7 hbel7 hgr7 hat7
        have HR7 := hide (show w7.ownsRow b1 3 1 (.slice (some ⟨g7, 0, none⟩) (j + 1) cap7) (j + 1) (((List.range (j + 1)).map fun j => (S.bk j).reserve).map (.int .i64)) by rw [zFe, List.map_append]; exact hown7)
        have HB7 := hide (hbel7 b1 w1 (Nat.le_refl _) (zAa HBE))
        clear hg7 hown7 hbel7 hgr7 hat7))
    go_roundw
    case rel => exact ⟨j + 1, by omega, by go_num, HR7, HB7⟩
    case measure => simp [intOf]; omega
   ·obtain rfl : mm = j := by omega
    obtain ⟨b2, hb2⟩ : ∃ b2, b2 = wr.heap.size := ⟨_, rfl⟩
    obtain ⟨w2, hw2⟩ : ∃ w2, w2 = wr := ⟨_, rfl⟩
    rw [← hw2] at HR HBE hb2 ⊢
    clear hw2
    have hbe := zAa HBE
    rw [zAa HBB] at hbe
    have HW2 := hide ((zAa HW).calm hbe)
    have HBL2 := hide ((zAa HBL).trans (hbe.mono (zAa HBL).size))
    have HB2 := hide hb2
    have HB2L := hide (show b1 ≤ b2 by rw [hb2, zAa HBB]; exact hbe.size)
    have c5' : w2.cell? ⟨y.hb, 5, none⟩ = some (.slice (some ⟨y.bb, 0, none⟩) nn y.bc) := (hbe.cell (p := ⟨y.hb, 5, none⟩) (zAa HCON).lt).trans c5
    have HP0 := hide (PuOwn.nil w2 b2)
    have HS0 := hide (show w2.ownsRow b2 78 1 (.slice none 0 0) 0 ((List.range 0).map (zDc c y)) from World.ownsRow_nil _ _ _ _)
    have HC0 := hide (show Below b2 w2 w2 from Below.refl _ _)
    have HD0 := hide (show ([] : List PuR).map (·.ps) = (List.range 0).map (zEt c S) from rfl)
    clear hbe c5 c6 hb2 HBE0 HR0
    go_wp2_with fail
    go_loopw [5, 6, 48] (fun p s i wr => ∃ (k : Nat) (rs : List PuR), k ≤ nn ∧ i = .int .i64 k ∧ Hid (PuOwn wr b2 p rs) ∧ Hid (rs.map (·.ps) = (List.range k).map (zEt c S)) ∧ Hid (wr.ownsRow b2 78 1 s k ((List.range k).map (zDc c y))) ∧ Hid (Below b2 w2 wr)) (fun _ _ i _ => nn - (intOf i).toNat)
    case atStart => exact ⟨0, [], Nat.zero_le _, rfl, HP0, HD0, HS0, HC0⟩
    case round =>
     obtain ⟨k, rs, hk, rfl, HP, HD, HS, HC⟩ := hrel
     by_cases hlt : k < nn
     ·have hki : (k : Int) < (nn : Int) := by omega
      have hkc : k < c.n := by rw [← zAa HNN]; exact hlt
      obtain ⟨w3, hw3⟩ : ∃ w3, w3 = wr := ⟨_, rfl⟩
      rw [← hw3] at HP HS HC ⊢
      clear hw3
      have hc2 := zAa HC
      rw [zAa HB2] at hc2
      have hpw := (zAa HW2).calm hc2
      obtain ⟨con, ⟨bcs, bk1, bk2⟩, _, cbrs, _⟩ := (show ConAt w3 c y (fun k => ow k = .con) from hpw.pc .con)
      have e1 : w3.cell? ⟨y.bb, k, none⟩ = some (.pointer (some ⟨(y.br k).b, 0, none⟩)) := (bk1.cell k).trans (bk2 k hkc)
      have kbr := cbrs k hkc
      have e2 : w3.cell? ⟨(y.br k).b, 0, none⟩ = some (.slice (some ⟨(y.br k).s, 0, none⟩) mm mm) := by rw [zAa HMM]; exact kbr.cell 0
      obtain ⟨b3, hb3⟩ : ∃ b3, b3 = w3.heap.size := ⟨_, rfl⟩
      have HB3 := hide hb3
      have HKB := hide kbr
      have HPW := hide hpw
      have hmr := hide (show w3.ownsRow b3 42 6 (.slice none 0 0) 0 (((List.range 0).map fun q => (⟨(S.ask k).getD q 0, (S.sh k q).stock 0 0⟩ : PurD)).flatMap PurD.cells) from World.ownsRow_nil _ _ _ _)
      have hm0 := hide (show Below b3 w3 w3 from Below.refl _ _)
      clear hc2 hpw con bk1 bk2 cbrs kbr hb3
      go_wp2_with fail
      go_loopw [14, 57] (fun v i wr => ∃ q : Nat, q ≤ mm ∧ i = .int .i64 q ∧ Hid (wr.ownsRow b3 42 6 v q (((List.range q).map fun q => (⟨(S.ask k).getD q 0, (S.sh k q).stock 0 0⟩ : PurD)).flatMap PurD.cells)) ∧ Hid (Below b3 w3 wr)) (fun _ i _ => mm - (intOf i).toNat)
      case atStart => exact ⟨0, Nat.zero_le _, rfl, hmr, hm0⟩
      case round =>
       obtain ⟨q, hq, rfl, HMR, HMB⟩ := hrel
       by_cases hlq : q < mm
       ·have hqi : (q : Int) < (mm : Int) := by omega
        have hqc : q < c.m := by rw [← zAa HMM]; exact hlq
        have hmb := zAa HMB
        rw [zAa HB3] at hmb
        have hpw := (zAa HPW).calm hmb
        have kbr := (zAa HKB).below hmb (zAa HKB).lt
        obtain ⟨hrow, _, _⟩ := (show k < c.n → NumRow wr base (y.br k).a (S.ask k) (fun q => ow q = .ask k) from hpw.pc (.ask k)) hkc
        obtain ⟨⟨shc, shv, hsh, _⟩, _⟩ := (show k < c.n → ShRow wr base (y.br k).s c.m (S.sh k) (fun q => ow q = .sh k) from hpw.pc (.sh k)) hkc
        obtain ⟨hsq, _⟩ := hsh q hqc
        have hsok := (zAa HOK).sh k q
        have HSTK := hide (fun n : Ext wr => zLi base (y.br k).s (q * 4) shc (S.sh k q) (shv q) n.W (hsq.calm n.h) hsok.len (fun x hx => by have := hsok.each x hx; omega))
        have f1 := fun n : Ext wr => n.cell (show wr.cell? ⟨(y.br k).b, 1, none⟩ = some (.slice (some ⟨(y.br k).a, 0, none⟩) mm mm) by rw [zAa HMM]; exact kbr.cell 1)
        have f0 := fun n : Ext wr => n.cell (show wr.cell? ⟨(y.br k).b, 0, none⟩ = some (.slice (some ⟨(y.br k).s, 0, none⟩) mm mm) by rw [zAa HMM]; exact kbr.cell 0)
        have f2 := fun n : Ext wr => n.cell (hrow.cell (zBf ((zAa HOK).ask k).1 hqc))
        obtain ⟨stk, hstk⟩ : ∃ z, z = (S.sh k q).stock 0 0 := ⟨_, rfl⟩
        obtain ⟨ak, hak⟩ : ∃ z, z = (S.ask k).getD q 0 := ⟨_, rfl⟩
        rw [← hstk] at HSTK
        rw [← hak] at f2
        have HEL := hide (And.intro hstk hak)
        unfold Stk.val at HSTK
        obtain ⟨mA, mc, hv, _⟩ := zAf (zAa HMR)
        subst hv
        have HMQ := hide (show (q + 1) * 48 ≤ 140737488355328 by omega)
        have hsz : b3 ≤ wr.heap.size := by rw [zAa HB3]; exact hmb.size
        clear hmb hpw kbr hrow hsh hsq hsok hstk hak
        go_upto_region 16 with fail
        refine zEp [0] [1, 2, 3, 4, 5, 6, 7, 8, 9, 10, 11, 12, 13] [14] [15, 16] 17 [18] (by kernel_rfl) (by kernel_rfl) (by intro c a d v w h; cases d <;> exact h) ?_
        simp only [zAb, List.map_cons, List.map_nil, List.getD_cons_zero, List.getD_cons_succ]
        repeat (go_big_quiet_step (fail))
        refine wpQuiet_nil ?_
        repeat (go_big_quiet_step (fail))
        refine wpQuiet_nil ?_
        repeat (go_big_quiet_step ((go_at_call 27; exact zDi (zAa HSTK _))))
        refine wpQuiet_nil ?_
        rintro W ⟨nq, hW⟩
        have hWB : Below wr.heap.size wr W := hW ▸ nq.h
        clear hW
        have HMR2 := hide (zAi (zAa HMR) hWB)
        have HMB2 := hide ((zAa HMB).trans (hWB.mono hsz))
        have hsz2 : b3 ≤ W.heap.size := Nat.le_trans hsz hWB.size
        clear f0 f1 f2 hsz
        simp only [wpAl]
        go_wp2_with fail
        refine ⟨⟨⟨_, hWB⟩, rfl⟩, ?_⟩
        go_wp2_with fail
        refine ⟨⟨⟨_, hWB.alloc hWB.size _⟩, rfl⟩, ?_⟩
        clear hWB
        go_wp2_with (first
         | (at_builtin; (refine zAl W rfl (.tmp 60) (.tmp 76) _ rfl b3 42 iP _ 6 48 Tryz.underlying38 hiP hzP hsP hyP rfl (by omega) (by omega) _ q _ (zAa HMR2) rfl _ 1 _ rfl rfl rfl (by simp [Value.oneCell']) (zAa HMQ) hsz2 ?_); intro g7 cap7 w7 hg7 hown7 hbel7 hgr7 hat7
            have HR7 := hide (show w7.ownsRow b3 42 6 (.slice (some ⟨g7, 0, none⟩) (q + 1) cap7) (q + 1) (((List.range (q + 1)).map fun q => (⟨(S.ask k).getD q 0, (S.sh k q).stock 0 0⟩ : PurD)).flatMap PurD.cells) by rw [zFe, List.flatMap_append, List.flatMap_singleton, ← (zAa HEL).1, ← (zAa HEL).2]; exact hown7)
            have HB7 := hide (hbel7 b3 w3 (Nat.le_refl _) (zAa HMB2))
            clear hg7 hown7 hbel7 hgr7 hat7))
        go_roundw
        case rel => exact ⟨q + 1, by omega, by go_num, HR7, HB7⟩
        case measure => simp [intOf]; omega
       ·obtain rfl : mm = q := by omega
        obtain ⟨wq, hwq⟩ : ∃ wq, wq = wr := ⟨_, rfl⟩
        rw [← hwq] at HMR HMB ⊢
        clear hwq
        have hmb := zAa HMB
        rw [zAa HB3] at hmb
        have e3 := fun W (hW : Below b2 w2 W) => show W.cell? ⟨(y.br k).b, 3, none⟩ = some (zDc c y k) from by
         have hc2 := hW
         rw [zAa HB2] at hc2
         exact ((zAa HW2).calm hc2 |>.pc .con |> fun h : ConAt W c y (fun k => ow k = .con) => h.brs k hkc).cell 3
        obtain ⟨ps, hps⟩ : ∃ ps, ps = zEt c S k := ⟨_, rfl⟩
        have hpl : ps.length = mm := by rw [hps]; unfold zEt; rw [List.length_map, List.length_range]; exact (zAa HMM).symm
        obtain ⟨mA, mc, hv, _⟩ := zAf (zAa HMR)
        obtain ⟨r, hr⟩ : ∃ r : PuR, r = ⟨ps, mA, mc⟩ := ⟨_, rfl⟩
        have hrv : u14 = r.val := by rw [hv, hr]; unfold PuR.val; dsimp only; rw [hpl]
        have HRO := hide (show wq.ownsRow b2 42 6 r.val r.ps.length (r.ps.flatMap PurD.cells) by
         rw [← hrv, show r.ps = ps by rw [hr], hpl, hps]
         have h := zBr (zAa HMR) (show b2 ≤ b3 by rw [zAa HB3, zAa HB2]; exact (zAa HC).size)
         rw [zAa HMM] at h ⊢
         exact h)
        have hrs : rs.length = k := by have := congrArg List.length (zAa HD); simpa using this
        have HD2 := hide (show (rs ++ [r]).map (·.ps) = (List.range (k + 1)).map (zEt c S) by rw [List.map_append, zAa HD, zFe, List.map_singleton, ← hps, hr])
        have HP' := hide ((zAa HP).calm hmb)
        have HS' := hide (zAi (zAa HS) hmb)
        have HC' := hide ((zAa HC).trans (hmb.mono (by rw [zAa HB2]; exact (zAa HC).size)))
        have HRL := hide hrs
        have hsv1 : (zDc c y k).oneCell' = true := rfl
        have HKM := hide (show k + 1 ≤ maxLen by unfold maxLen; omega)
        have HKB24 := hide (show (k + 1) * 24 ≤ 140737488355328 by omega)
        rw [hv]
        have HRV := hide (show r.val = .slice mA mm mc from hrv.symm.trans hv)
        clear hmb hps hpl hv hr hrv hrs HMR HMB
        clear HP HS HC
        have HP := HP'
        have HS := HS'
        have HC := HC'
        clear HP' HS' HC'
        have f3 := fun n : HasR (fun W => Below b2 w2 W) => e3 n.W n.h
        unfold zDc at f3
        clear e3
        go_upto_region 18 with fail
        haveI hne : Nonempty (HasR (fun W => Below b2 w2 W)) := ⟨⟨_, zAa HC⟩⟩
        refine zFa (C := fun w' => ∃ n : HasR (fun W => Below b2 w2 W), w' = n.W) [0, 1, 4, 5, 6, 7, 8] [2, 3, 9, 10, 11, 12] treeE (by kernel_rfl) (by kernel_rfl) (by intro c a d v w h; cases d <;> exact h) ⟨⟨_, (zAa HC).drew⟩, rfl⟩ ?_
        simp only [zAb, List.map_cons, List.map_nil, List.getD_cons_zero, List.getD_cons_succ]
        repeat (go_big_quiet_step (fail))
        refine wpQuiet_nil ?_
        have HP2 := hide ((zAa HP).calm (Below.refl _ wq).drew)
        have HS2 := hide (zAi (zAa HS) (Below.refl _ wq).drew)
        have HC2 := hide ((zAa HC).drew)
        have HRO2 := hide (zAi (zAa HRO) (Below.refl _ wq).drew)
        clear f3 HP HS HC HRO
        generalize wq.drew = wd at HP2 HS2 HC2 HRO2 ⊢
        have HP := HP2
        have HS := HS2
        have HC := HC2
        have HRO := HRO2
        clear HP2 HS2 HC2 HRO2
        unfold treeE
        refine zAm ?_ ?_
        ·refine zAc fun K0 hK0 => ?_
         simp only [zAb, List.map_cons, List.map_nil, List.getD_cons_zero, List.getD_cons_succ]
         go_wp2_with fail
         obtain ⟨x1, hwn⟩ : ∃ z, z = wd.alloc (.cells #[(.slice mA mm mc)] 38) := ⟨_, rfl⟩
         rw [← hwn]
         have hbn : Below wd.heap.size wd x1 := by rw [hwn]; exact (Below.refl _ _).alloc (Nat.le_refl _) _
         have HE := hide (show Blk x1 wd.heap.size 38 #[(.slice mA mm mc)] from by rw [hwn]; exact Blk.new _ _ _)
         replace HP := hide ((zAa HP).calm hbn)
         replace HS := hide (zAi (zAa HS) hbn)
         replace HRO := hide (zAi (zAa HRO) hbn)
         replace HC := hide ((zAa HC).trans (hbn.mono (by rw [zAa HB2]; exact (zAa HC).size)))
         clear hwn hbn
         refine hK0 _ x1 (fun _ => ⟨⟨_, zAa HC⟩, rfl⟩) ?_
         clear hK0 K0
         refine zAm ?_ ?_
         ·refine zAc fun K0 hK0 => ?_
          simp only [zAb, List.map_cons, List.map_nil, List.getD_cons_zero, List.getD_cons_succ]
          have HQ := hide (show x1.ownsRow b2 38 1 _ k (rs.map PuR.val) by have h := (zAa HP).1; rw [zAa HRL] at h; exact h)
          go_wp2_with (first
           | (at_builtin; (refine zAr _ rfl (.tmp 79) (.tmp 81) _ rfl b2 38 iQ _ 1 24 Tryz.underlying32 hiQ hzQ hsQ hyQ rfl (by omega) _ k _ rfl (zAa HQ) _ _ 1 1 [.slice mA mm mc] rfl (zCh (zAa HE) (zAa HE).lt) (by simp [Value.oneCell']) (zAa HKM) (zAa HKB24) (by rw [zAa HB2]; exact (zAa HC).size) ?_); intro v7 x2 hown7 hgr7 hat7))
          have hp7 := (zAa HP).push (zAa HRO) hgr7 (by rw [zAa HRL, zAa HRV]; exact hown7)
          have hs7 := zDe (zAa HS) (zAa HP).1 (by decide) hgr7
          have hc7 := zHf (zAa HC) (zAa HP).1 hgr7 (Nat.le_refl _) (by rw [zAa HB2]; exact (zAa HC).size)
          clear HP HS HC HE HRO HQ
          have HP := hide hp7
          have HS := hide hs7
          have HC := hide hc7
          clear hp7 hs7 hc7 hown7 hgr7 hat7
          refine hK0 _ x2 (fun _ => ⟨⟨_, zAa HC⟩, rfl⟩) ?_
          clear hK0 K0
          refine zAc fun K0 hK0 => ?_
          simp only [zAb, List.map_cons, List.map_nil, List.getD_cons_zero, List.getD_cons_succ]
          go_wp2_with fail
          obtain ⟨x3, hwn⟩ : ∃ z, z = x2.alloc (.cells #[zDc c y k] 78) := ⟨_, rfl⟩
          unfold zDc at hwn
          rw [← hwn]
          have hbn : Below x2.heap.size x2 x3 := by rw [hwn]; exact (Below.refl _ _).alloc (Nat.le_refl _) _
          have HF := hide (show Blk x3 x2.heap.size 78 #[zDc c y k] from by rw [hwn]; exact Blk.new _ _ _)
          replace HP := hide ((zAa HP).calm hbn)
          replace HS := hide (zAi (zAa HS) hbn)
          replace HC := hide ((zAa HC).trans (hbn.mono (by rw [zAa HB2]; exact (zAa HC).size)))
          clear hwn hbn
          refine hK0 _ x3 (fun _ => ⟨⟨_, zAa HC⟩, rfl⟩) ?_
          clear hK0 K0
          refine zAc fun K0 hK0 => ?_
          simp only [zAb, List.map_cons, List.map_nil, List.getD_cons_zero, List.getD_cons_succ]
          go_wp2_with (first
           | (at_builtin; (refine zAr _ rfl (.tmp 83) (.tmp 88) _ rfl b2 78 iS _ 1 24 Tryz.underlying33 hiS hzS hsS hyS rfl (by omega) _ k _ rfl (zAa HS) _ _ 1 1 [zDc c y k] rfl (zCh (zAa HF) (zAa HF).lt) (by simp [hsv1]) (zAa HKM) (zAa HKB24) (by rw [zAa HB2]; exact (zAa HC).size) ?_); intro v7 x4 hown7 hgr7 hat7))
          have hp7 := (zAa HP).far (zAa HS) (by decide) (by decide) hgr7
          have hs7 : x4.ownsRow b2 78 1 v7 (k + 1) ((List.range (k + 1)).map (zDc c y)) := by rw [zFe]; exact hown7
          have hc7 := zHf (zAa HC) (zAa HS) hgr7 (Nat.le_refl _) (by rw [zAa HB2]; exact (zAa HC).size)
          clear HP HS HC HF
          have HP := hide hp7
          have HS := hide hs7
          have HC := hide hc7
          clear hp7 hs7 hc7 hown7 hgr7 hat7
          refine hK0 _ x4 (fun _ => ⟨⟨_, zAa HC⟩, rfl⟩) ?_
          clear hK0 K0
          refine zAc fun K0 hK0 => ?_
          simp only [zAb, List.map_cons, List.map_nil, List.getD_cons_zero, List.getD_cons_succ]
          go_wp2_with fail
          refine hK0 _ x4 (fun _ => ⟨⟨_, zAa HC⟩, rfl⟩) ?_
          clear hK0 K0
          refine zAc fun K0 hK0 => ?_
          simp only [zAb, List.map_cons, List.map_nil, List.getD_cons_zero, List.getD_cons_succ]
          go_wp2_with fail
          refine hK0 _ x4 (fun _ => ⟨⟨_, zAa HC⟩, rfl⟩) ?_
          clear hK0 K0
          refine zBg ?_
          go_wp2_with (fail)
          go_roundw
          case rel => exact ⟨k + 1, rs ++ [r], by omega, by go_num, HP, HD2, HS, HC⟩
          case measure => simp [intOf]; omega
         ·refine zAc fun K0 hK0 => ?_
          simp only [zAb, List.map_cons, List.map_nil, List.getD_cons_zero, List.getD_cons_succ]
          go_wp2_with fail
          obtain ⟨x2, hwn⟩ : ∃ z, z = x1.alloc (.cells #[zDc c y k] 78) := ⟨_, rfl⟩
          unfold zDc at hwn
          rw [← hwn]
          have hbn : Below x1.heap.size x1 x2 := by rw [hwn]; exact (Below.refl _ _).alloc (Nat.le_refl _) _
          have HF := hide (show Blk x2 x1.heap.size 78 #[zDc c y k] from by rw [hwn]; exact Blk.new _ _ _)
          replace HP := hide ((zAa HP).calm hbn)
          replace HS := hide (zAi (zAa HS) hbn)
          replace HRO := hide (zAi (zAa HRO) hbn)
          replace HE := hide ((zAa HE).below hbn (zAa HE).lt)
          replace HC := hide ((zAa HC).trans (hbn.mono (by rw [zAa HB2]; exact (zAa HC).size)))
          clear hwn hbn
          refine hK0 _ x2 (fun _ => ⟨⟨_, zAa HC⟩, rfl⟩) ?_
          clear hK0 K0
          refine zAc fun K0 hK0 => ?_
          simp only [zAb, List.map_cons, List.map_nil, List.getD_cons_zero, List.getD_cons_succ]
          have HQ := hide (show x2.ownsRow b2 38 1 _ k (rs.map PuR.val) by have h := (zAa HP).1; rw [zAa HRL] at h; exact h)
          go_wp2_with (first
           | (at_builtin; (refine zAr _ rfl (.tmp 79) (.tmp 81) _ rfl b2 38 iQ _ 1 24 Tryz.underlying32 hiQ hzQ hsQ hyQ rfl (by omega) _ k _ rfl (zAa HQ) _ _ 1 1 [.slice mA mm mc] rfl (zCh (zAa HE) (zAa HE).lt) (by simp [Value.oneCell']) (zAa HKM) (zAa HKB24) (by rw [zAa HB2]; exact (zAa HC).size) ?_); intro v7 x3 hown7 hgr7 hat7))
          have hp7 := (zAa HP).push (zAa HRO) hgr7 (by rw [zAa HRL, zAa HRV]; exact hown7)
          have hs7 := zDe (zAa HS) (zAa HP).1 (by decide) hgr7
          have hc7 := zHf (zAa HC) (zAa HP).1 hgr7 (Nat.le_refl _) (by rw [zAa HB2]; exact (zAa HC).size)
          replace HF := hide (Blk.grown (zAa HF) hgr7 (fun e => zAe (zAa HQ) (zAa HF) (by decide) e.symm))
          clear HP HS HC HE HRO HQ
          have HP := hide hp7
          have HS := hide hs7
          have HC := hide hc7
          clear hp7 hs7 hc7 hown7 hgr7 hat7
          refine hK0 _ x3 (fun _ => ⟨⟨_, zAa HC⟩, rfl⟩) ?_
          clear hK0 K0
          refine zAc fun K0 hK0 => ?_
          simp only [zAb, List.map_cons, List.map_nil, List.getD_cons_zero, List.getD_cons_succ]
          go_wp2_with (first
           | (at_builtin; (refine zAr _ rfl (.tmp 83) (.tmp 88) _ rfl b2 78 iS _ 1 24 Tryz.underlying33 hiS hzS hsS hyS rfl (by omega) _ k _ rfl (zAa HS) _ _ 1 1 [zDc c y k] rfl (zCh (zAa HF) (zAa HF).lt) (by simp [hsv1]) (zAa HKM) (zAa HKB24) (by rw [zAa HB2]; exact (zAa HC).size) ?_); intro v7 x4 hown7 hgr7 hat7))
          have hp7 := (zAa HP).far (zAa HS) (by decide) (by decide) hgr7
          have hs7 : x4.ownsRow b2 78 1 v7 (k + 1) ((List.range (k + 1)).map (zDc c y)) := by rw [zFe]; exact hown7
          have hc7 := zHf (zAa HC) (zAa HS) hgr7 (Nat.le_refl _) (by rw [zAa HB2]; exact (zAa HC).size)
          clear HP HS HC HF
          have HP := hide hp7
          have HS := hide hs7
          have HC := hide hc7
          clear hp7 hs7 hc7 hown7 hgr7 hat7
          refine hK0 _ x4 (fun _ => ⟨⟨_, zAa HC⟩, rfl⟩) ?_
          clear hK0 K0
          refine zAc fun K0 hK0 => ?_
          simp only [zAb, List.map_cons, List.map_nil, List.getD_cons_zero, List.getD_cons_succ]
          go_wp2_with fail
          refine hK0 _ x4 (fun _ => ⟨⟨_, zAa HC⟩, rfl⟩) ?_
          clear hK0 K0
          refine zAc fun K0 hK0 => ?_
          simp only [zAb, List.map_cons, List.map_nil, List.getD_cons_zero, List.getD_cons_succ]
          go_wp2_with fail
          refine hK0 _ x4 (fun _ => ⟨⟨_, zAa HC⟩, rfl⟩) ?_
          clear hK0 K0
          refine zBg ?_
          go_wp2_with (fail)
          go_roundw
          case rel => exact ⟨k + 1, rs ++ [r], by omega, by go_num, HP, HD2, HS, HC⟩
          case measure => simp [intOf]; omega
        ·refine zAc fun K0 hK0 => ?_
         simp only [zAb, List.map_cons, List.map_nil, List.getD_cons_zero, List.getD_cons_succ]
         go_wp2_with fail
         obtain ⟨x1, hwn⟩ : ∃ z, z = wd.alloc (.cells #[zDc c y k] 78) := ⟨_, rfl⟩
         unfold zDc at hwn
         rw [← hwn]
         have hbn : Below wd.heap.size wd x1 := by rw [hwn]; exact (Below.refl _ _).alloc (Nat.le_refl _) _
         have HF := hide (show Blk x1 wd.heap.size 78 #[zDc c y k] from by rw [hwn]; exact Blk.new _ _ _)
         replace HP := hide ((zAa HP).calm hbn)
         replace HS := hide (zAi (zAa HS) hbn)
         replace HRO := hide (zAi (zAa HRO) hbn)
         replace HC := hide ((zAa HC).trans (hbn.mono (by rw [zAa HB2]; exact (zAa HC).size)))
         clear hwn hbn
         refine hK0 _ x1 (fun _ => ⟨⟨_, zAa HC⟩, rfl⟩) ?_
         clear hK0 K0
         refine zAc fun K0 hK0 => ?_
         simp only [zAb, List.map_cons, List.map_nil, List.getD_cons_zero, List.getD_cons_succ]
         go_wp2_with fail
         obtain ⟨x2, hwn⟩ : ∃ z, z = x1.alloc (.cells #[(.slice mA mm mc)] 38) := ⟨_, rfl⟩
         rw [← hwn]
         have hbn : Below x1.heap.size x1 x2 := by rw [hwn]; exact (Below.refl _ _).alloc (Nat.le_refl _) _
         have HE := hide (show Blk x2 x1.heap.size 38 #[(.slice mA mm mc)] from by rw [hwn]; exact Blk.new _ _ _)
         replace HP := hide ((zAa HP).calm hbn)
         replace HS := hide (zAi (zAa HS) hbn)
         replace HRO := hide (zAi (zAa HRO) hbn)
         replace HF := hide ((zAa HF).below hbn (zAa HF).lt)
         replace HC := hide ((zAa HC).trans (hbn.mono (by rw [zAa HB2]; exact (zAa HC).size)))
         clear hwn hbn
         refine hK0 _ x2 (fun _ => ⟨⟨_, zAa HC⟩, rfl⟩) ?_
         clear hK0 K0
         refine zAc fun K0 hK0 => ?_
         simp only [zAb, List.map_cons, List.map_nil, List.getD_cons_zero, List.getD_cons_succ]
         have HQ := hide (show x2.ownsRow b2 38 1 _ k (rs.map PuR.val) by have h := (zAa HP).1; rw [zAa HRL] at h; exact h)
         go_wp2_with (first
          | (at_builtin; (refine zAr _ rfl (.tmp 79) (.tmp 81) _ rfl b2 38 iQ _ 1 24 Tryz.underlying32 hiQ hzQ hsQ hyQ rfl (by omega) _ k _ rfl (zAa HQ) _ _ 1 1 [.slice mA mm mc] rfl (zCh (zAa HE) (zAa HE).lt) (by simp [Value.oneCell']) (zAa HKM) (zAa HKB24) (by rw [zAa HB2]; exact (zAa HC).size) ?_); intro v7 x3 hown7 hgr7 hat7))
         have hp7 := (zAa HP).push (zAa HRO) hgr7 (by rw [zAa HRL, zAa HRV]; exact hown7)
         have hs7 := zDe (zAa HS) (zAa HP).1 (by decide) hgr7
         have hc7 := zHf (zAa HC) (zAa HP).1 hgr7 (Nat.le_refl _) (by rw [zAa HB2]; exact (zAa HC).size)
         replace HF := hide (Blk.grown (zAa HF) hgr7 (fun e => zAe (zAa HQ) (zAa HF) (by decide) e.symm))
         clear HP HS HC HE HRO HQ
         have HP := hide hp7
         have HS := hide hs7
         have HC := hide hc7
         clear hp7 hs7 hc7 hown7 hgr7 hat7
         refine hK0 _ x3 (fun _ => ⟨⟨_, zAa HC⟩, rfl⟩) ?_
         clear hK0 K0
         refine zAc fun K0 hK0 => ?_
         simp only [zAb, List.map_cons, List.map_nil, List.getD_cons_zero, List.getD_cons_succ]
         go_wp2_with (first
          | (at_builtin; (refine zAr _ rfl (.tmp 83) (.tmp 88) _ rfl b2 78 iS _ 1 24 Tryz.underlying33 hiS hzS hsS hyS rfl (by omega) _ k _ rfl (zAa HS) _ _ 1 1 [zDc c y k] rfl (zCh (zAa HF) (zAa HF).lt) (by simp [hsv1]) (zAa HKM) (zAa HKB24) (by rw [zAa HB2]; exact (zAa HC).size) ?_); intro v7 x4 hown7 hgr7 hat7))
         have hp7 := (zAa HP).far (zAa HS) (by decide) (by decide) hgr7
         have hs7 : x4.ownsRow b2 78 1 v7 (k + 1) ((List.range (k + 1)).map (zDc c y)) := by rw [zFe]; exact hown7
         have hc7 := zHf (zAa HC) (zAa HS) hgr7 (Nat.le_refl _) (by rw [zAa HB2]; exact (zAa HC).size)
         clear HP HS HC HF
         have HP := hide hp7
         have HS := hide hs7
         have HC := hide hc7
         clear hp7 hs7 hc7 hown7 hgr7 hat7
         refine hK0 _ x4 (fun _ => ⟨⟨_, zAa HC⟩, rfl⟩) ?_
         clear hK0 K0
         refine zAc fun K0 hK0 => ?_
         simp only [zAb, List.map_cons, List.map_nil, List.getD_cons_zero, List.getD_cons_succ]
         go_wp2_with fail
         refine hK0 _ x4 (fun _ => ⟨⟨_, zAa HC⟩, rfl⟩) ?_
         clear hK0 K0
         refine zAc fun K0 hK0 => ?_
         simp only [zAb, List.map_cons, List.map_nil, List.getD_cons_zero, List.getD_cons_succ]
         go_wp2_with fail
         refine hK0 _ x4 (fun _ => ⟨⟨_, zAa HC⟩, rfl⟩) ?_
         clear hK0 K0
         refine zBg ?_
         go_wp2_with (fail)
         go_roundw
         case rel => exact ⟨k + 1, rs ++ [r], by omega, by go_num, HP, HD2, HS, HC⟩
         case measure => simp [intOf]; omega
     ·obtain rfl : nn = k := by omega
      obtain ⟨rA, rc, hv, _⟩ := zAf (zAa HR)
      subst hv
      have hc2 := zAa HC
      rw [zAa HB2] at hc2
      have hpw := (zAa HW2).calm hc2
      have hrr := zAi (zAa HR) hc2
      have hpu := (zAa HP).rd
      rw [zAa HD] at hpu
      have hst := zAa HS
      rw [zAa HNN] at hst hpu
      have HFIN := hide (show zZd w c ss (.returned (.tuple #[.slice rA mm rc, u5, u6, .int .i64 0])) wr from
       .inr (.inr ⟨zAa HF, zAa HN, rA, mm, rc, u5, u6, rfl, zAa HMM, by rw [← zAa HSE]; unfold resP; rw [← zAa HMM]; exact Reads.of_own hrr, by rw [← zAa HSE]; exact hpu, by rw [← zAa HSE]; exact zZl hpw (fun i => ((zAa HOK).st i).1) hst, (zAa HBL2).trans (hc2.mono (zAa HBL2).size)⟩))
      clear hc2 hpw hrr hpu hst
      go_wp2_with fail
      (try simp only [Exit.inBlock, Exit.then])
      refine bodyPost_ret (zKa rfl _ _ _) rfl ?_
      exact zAa HFIN
end
end
end Go.Proofs.YtbolcebmbpepdaaGreatDoor
