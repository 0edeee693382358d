/- Contracts and plain facts, set together by program out of smaller texts. Conditions: none beyond what each theorem states. -/
import Derived.Test.YtbolcebmbpepdaaGreatDoorProg
import Derived.Maps.OwnOps
import Derived.Maps.OwnSet
import Derived.Maps.Views
import Derived.DeepKeys4
import Derived.MapViews
import Derived.Test.YtbolcebmbpepdaaGreatDoorM02
import Derived.Test.YtbolcebmbpepdaaGreatDoorM01
import Derived.Test.YtbolcebmbpepdaaGreatDoorM03
import Derived.Test.YtbolcebmbpepdaaGreatDoorM04
namespace Go.Proofs.YtbolcebmbpepdaaGreatDoor
set_option linter.unusedVariables false
section
open Go.RowKit
open Go.Maps (Keyed)
def wayV (f t : Int) : Value := .agg #[.int .i64 f, .int .i64 t]
theorem way_laid : laidOutB Tryz.prog = true := by kernel_rfl
set_option maxRecDepth 100000 in
theorem way_row : (194 : TypeId) < Tryz.prog.types.size := of_decide_eq_true (by kernel_rfl)
theorem way_kt : Tryz.prog.keyTypeAt 2 194 = true := by kernel_rfl
theorem way_law : Keyed Tryz.prog 194 := Keyed.of_law (deep_law_laid way_laid (m := 2) (Nat.le_of_ble_eq_true rfl) way_row way_kt (by rw [Tryz.underlying194]))
theorem way_deep : Tryz.prog.keyTypeAt (Tryz.prog.types.size + 1) 194 = true := by kernel_rfl
theorem zSd : Tryz.prog.cellsOf 194 = 2 := by kernel_rfl
theorem yDd : Tryz.prog.cellsOf 3 = 1 := by kernel_rfl
theorem zZx (f t : Int) : (wayV f t).formed Tryz.prog 194 = true := by simp [wayV, Value.formed, Tryz.underlying194, zSd]
theorem zYt (w : World) (f t : Int) (hf : (Lit.int .i64 f).wf = true) (ht : (Lit.int .i64 t).wf = true) : ∃ l, keyOf Tryz.prog 194 (wayV f t) = some l := by
 have hT : ∃ d ps, DataW.Trod (H := Unit) (fun _ => ()) Tryz.prog w 0 (fun _ => true) true 194 (wayV f t) d ps := by
  exact ⟨_, _, 3, by simp [DataW.trod, wayV, Value.cells, Tryz.underlying194, Tryz.underlying3, zSd, yDd, show List.range 2 = [0, 1] from rfl, hf, ht]; exact ⟨rfl, rfl⟩⟩
 obtain ⟨d, ps, hd⟩ := hT
 exact ⟨_, (keyOf_asKey way_deep (by rw [Tryz.underlying194]) (zZx f t) hd).1⟩
theorem int_zero (w : World) : (zeroValue 3).run Tryz.prog w = .ok (.int .i64 0) w := by kernel_rfl
def WayMap (w : World) (b n : Nat) (top : Int → Int → Int) : Prop :=
 ∃ D : DataW Unit, w.ownsMap Tryz.prog 194 (plainElem Tryz.prog 3) b n D ∧ ∀ f t l, keyOf Tryz.prog 194 (wayV f t) = some l → D.atKey l (.lit (.int .i64 0)) = .lit (.int .i64 (top f t))
section
variable {w w' : World} {b n : Nat} {top : Int → Int → Int}
theorem WayMap.made (w : World) : WayMap (w.alloc (.map #[] 0)) w.heap.size 0 (fun _ _ => 0) :=
 ⟨.map [], World.ownsMap_made w _ _ _, fun f t l _ => WideAt.atKey_none _ (fun p hp => by cases hp)⟩
theorem WayMap.lt (h : WayMap w b n top) : b < w.heap.size := by obtain ⟨D, h, _⟩ := h; exact h.lt
theorem WayMap.mono {n' : Nat} (h : WayMap w b n top) (hn : n ≤ n') : WayMap w b n' top := by obtain ⟨D, h, k⟩ := h; exact ⟨D, h.mono hn, k⟩
theorem WayMap.only {D : Nat → Prop} (h : WayMap w b n top) (ho : Only D w w') (hn : ¬ D b) : WayMap w' b n top := by
 have hlt := h.lt
 obtain ⟨E, ⟨es, clock, hb, r⟩, k⟩ := h
 exact ⟨E, ⟨es, clock, (ho.block b hlt hn).trans hb, r⟩, k⟩
theorem WayMap.below (h : WayMap w b n top) (hb : Below w.heap.size w w') : WayMap w' b n top := h.only (D := fun _ => False) (Only.of_below hb (fun x h1 h2 => by omega)) (fun e => e)
theorem WayMap.look (h : WayMap w b n top) (f t : Int) (hf : (Lit.int .i64 f).wf = true) (ht : (Lit.int .i64 t).wf = true) :
    (Instr.lookup 165 (.map (some b)) (wayV f t) false).run Tryz.prog w = .ok (.int .i64 (top f t)) w := by
 obtain ⟨l, hl⟩ := zYt w f t hf ht
 obtain ⟨D, h, k⟩ := h
 obtain ⟨c, hrun, hat, _⟩ := h.lookup_int way_law Tryz.underlying165 Tryz.underlying3 (int_zero w) hl
 have h1 : top f t = c := (Lit.int.inj (DataW.lit.inj ((k f t l hl).symm.trans hat))).2
 exact hrun.trans (by rw [h1])
theorem WayMap.store (h : WayMap w b n top) (f t v : Int) (hf : (Lit.int .i64 f).wf = true) (ht : (Lit.int .i64 t).wf = true) (hv : (Lit.int .i64 v).wf = true) (hn : n < maxLen) :
    ∃ w', (Instr.mapUpdate 165 (.map (some b)) (wayV f t) (.int .i64 v)).run Tryz.prog w = .ok () w' ∧ WayMap w' b (n + 1) (fun f' t' => if f' = f ∧ t' = t then v else top f' t') ∧ w.grownBy w' (some b) := by
 obtain ⟨l, hl⟩ := zYt w f t hf ht
 obtain ⟨D, h, k⟩ := h
 obtain ⟨w', hrun, hown, hg⟩ := h.update way_law Tryz.underlying165 hn hl (plainElem_int Tryz.underlying3 hv)
 refine ⟨w', hrun, ⟨_, hown, fun f' t' l' hl' => ?_⟩, hg⟩
 show _ = DataW.lit (Lit.int .i64 (if f' = f ∧ t' = t then v else top f' t'))
 by_cases he : f' = f ∧ t' = t
 ·obtain ⟨rfl, rfl⟩ := he
  have e := Option.some.inj (hl.symm.trans hl')
  subst e
  rw [if_pos ⟨rfl, rfl⟩]
  exact Maps.atKey_put_same h.isMap (way_law.key hl) _ _
 ·rw [if_neg he, Maps.atKey_put_other (fun e => he ?_)]
  ·exact k f' t' l' hl'
  ·subst e
   have := way_law.inj hl hl'
   unfold wayV at this
   injection this with this
   simp at this
   exact ⟨this.1.symm, this.2.symm⟩
end
end
section
open Go.RowKit
structure PoD where
 fr : Int
 to_ : Int
 data : List Int
structure Po where
 d : PoD
 A : Option Addr
 n : Nat
 c : Nat
def Po.cells (p : Po) : List Value := [.int .i64 p.d.fr, .int .i64 p.d.to_, .slice p.A p.n p.c]
theorem Po.cells_len (p : Po) : p.cells.length = 3 := rfl
def zOb (p : Po) (w : World) (base : Nat) : Prop := w.ownsRow base 5 1 (.slice p.A p.n p.c) p.n (p.d.data.map (.int .u8))
structure OfAt (w : World) (base g b : Nat) (v : Value) (l : List Po) (m : Nat) (top : Int → Int → Int) : Prop where
 blk : Blk w g 168 #[v, .map (some b)]
 own : w.ownsRow base 187 3 v l.length (l.flatMap Po.cells)
 rows : ∀ p ∈ l, zOb p w base
 map : WayMap w b m top
 wf : ∀ p ∈ l, (Lit.int .i64 p.d.fr).wf = true ∧ (Lit.int .i64 p.d.to_).wf = true
theorem zHs {w : World} {g b m : Nat} {t : TypeId} {cs : Array Value} {top : Int → Int → Int} (h : Blk w g t cs) (k : WayMap w b m top) : g ≠ b := fun e => by
 obtain ⟨D, ⟨es, clock, hb, _⟩, _⟩ := k
 rw [← e] at hb
 have := h.symm.trans hb
 injection this with this
 injection this
theorem zJa {w : World} {base b m size n : Nat} {e : TypeId} {v : Value} {xs : List Value} {top : Int → Int → Int} (h : w.ownsRow base e size v n xs) (k : WayMap w b m top) : v.ownBlock ≠ some b := fun he => by
 rcases h.2 with ⟨rfl, _⟩ | ⟨g', cap, cur, rfl, _, hh, _⟩
 ·simp [Value.ownBlock] at he
 ·have hg : g' = b := by simpa [Value.ownBlock] using he
  subst hg
  exact zHs (t := e) hh k rfl
section
variable {w w' : World} {base g b m : Nat} {v : Value} {l : List Po} {top : Int → Int → Int}
theorem OfAt.c0 (h : OfAt w base g b v l m top) : w.cell? ⟨g, 0, none⟩ = some v := h.blk.cell 0
theorem OfAt.c1 (h : OfAt w base g b v l m top) : w.cell? ⟨g, 1, none⟩ = some (.map (some b)) := h.blk.cell 1
theorem OfAt.only {D : Nat → Prop} (h : OfAt w base g b v l m top) (ho : Only D w w') (h1 : ¬ D g) (h2 : ¬ D b) (h3 : ∀ k, v.ownBlock = some k → ¬ D k) (h4 : ∀ p ∈ l, ∀ k, (Value.slice p.A p.n p.c).ownBlock = some k → ¬ D k) : OfAt w' base g b v l m top :=
 ⟨h.blk.only ho h1, zAk h.own ho h3, fun p hp => zAk (h.rows p hp) ho (h4 p hp), h.map.only ho h2, h.wf⟩
theorem OfAt.calm (h : OfAt w base g b v l m top) (hb : Below w.heap.size w w') : OfAt w' base g b v l m top :=
 h.only (D := fun _ => False) (Only.of_below hb (fun x h1 h2 => by omega)) (fun e => e) (fun e => e) (fun _ _ e => e) (fun _ _ _ _ e => e)
end
def toP (l : List PoD) (id : Int) : Int := if id < 0 then -1 else match l[id.toNat]? with | some p => p.to_ | none => -1
theorem zHt (base g b m : Nat) (v : Value) (l : List Po) (top : Int → Int → Int) (w : World) (id : Int) (h : OfAt w base g b v l m top) (hlm : l.length ≤ 9223372036854775807) :
    Calls Tryz.prog 83 #[.pointer (some ⟨g, 0, none⟩), .int .i64 id] w fun e w' => e = .returned (.int .i64 (toP (l.map (·.d)) id)) ∧ w = w' := by
 obtain ⟨A, c, rfl, _⟩ := zAf h.own
 have c0 := h.c0
 by_cases h1 : id < 0
 ·have HF := hide (show toP (l.map (·.d)) id = -1 from if_pos h1)
  have hd1 : decide (id < 0) = true := decide_eq_true h1
  clear h
  go_enter Tryz.func83, Tryz.ntmps83
  go_wp2_with fail
  go_ret
  exact ⟨zBn (zAa HF).symm, rfl⟩
 obtain ⟨k, rfl⟩ := Int.eq_ofNat_of_zero_le (show 0 ≤ id by omega)
 have hd1 : decide ((k : Int) < 0) = false := decide_eq_false h1
 by_cases h2 : k < l.length
 ·have hr := Reads.of_own h.own
  obtain ⟨bl, o, x, rfl, _, hx, hc⟩ := zCf Po.cells_len (by omega) hr h2 rfl
  have HF := hide (show toP (l.map (·.d)) k = x.d.to_ by unfold toP; rw [if_neg h1, Int.toNat_natCast, List.getElem?_map, hx]; rfl)
  have x1 := hc 1 _ rfl
  have h3 : (k : Int) < (l.length : Int) := by omega
  obtain ⟨n, hn⟩ : ∃ n, n = l.length := ⟨_, rfl⟩
  rw [← hn] at c0 h3 h2 hlm
  clear h hr hc hx hn h1
  go_enter Tryz.func83, Tryz.ntmps83
  go_wp2_with fail
  go_ret
  exact ⟨zBn (zAa HF).symm, rfl⟩
 ·have HF := hide (show toP (l.map (·.d)) k = -1 by unfold toP; rw [if_neg h1, Int.toNat_natCast, List.getElem?_map, List.getElem?_eq_none (by omega)]; rfl)
  have h3 : (l.length : Int) ≤ (k : Int) := by omega
  obtain ⟨n, hn⟩ : ∃ n, n = l.length := ⟨_, rfl⟩
  rw [← hn] at c0 h3 h2 hlm
  clear h hn h1
  go_enter Tryz.func83, Tryz.ntmps83
  go_wp2_with fail
  go_ret
  exact ⟨zBn (zAa HF).symm, rfl⟩
end
section
open Go.RowKit
theorem zXb : (Tryz.prog.info? 187).map (fun i => (i.zero, i.size, i.bytes)) = some (some (.agg #[.int .i64 0, .int .i64 0, .slice none 0 0]), 3, 40) := by kernel_rfl
theorem zXy : ∃ i, Tryz.prog.info? 187 = some i ∧ i.zero = some (.agg #[.int .i64 0, .int .i64 0, .slice none 0 0]) ∧ i.size = 3 ∧ i.bytes = 40 := by
 have h := zXb
 cases hi : Tryz.prog.info? 187 with
 | none => rw [hi] at h; simp at h
 | some i => rw [hi] at h; simp at h; exact ⟨i, rfl, h.1, h.2.1, h.2.2⟩
theorem zSc (k : IntKind) (l : List Int) : ∀ u ∈ l.map (Value.int k), u.oneCell' = true := by
 intro u hu
 obtain ⟨z, _, rfl⟩ := List.mem_map.1 hu
 rfl
section
variable {w w1 w' : World} {base g b m : Nat} {v v' : Value} {l : List Po} {p : Po} {top : Int → Int → Int}
theorem OfAt.ne_g (h : OfAt w base g b v l m top) : v.ownBlock ≠ some g := zAe h.own h.blk (by decide)
theorem OfAt.grows (h : OfAt w base g b v l m top) (hp : zOb p w base) (hw : (Lit.int .i64 p.d.fr).wf = true ∧ (Lit.int .i64 p.d.to_).wf = true) (hg : w.grownBy w1 v.ownBlock)
    (hown : w1.ownsRow base 187 3 v' (l.length + 1) (l.flatMap Po.cells ++ p.cells)) : OfAt (w1.setCell ⟨g, 0, none⟩ v') base g b v' (l ++ [p]) m top := by
 have ho1 : Only (fun k => v.ownBlock = some k) w w1 := (Only.refl _ _).grown hg fun k hk _ => hk
 have ho2 : Only (fun k => k = g) w1 (w1.setCell ⟨g, 0, none⟩ v') := zAg (Only.refl _ _) _ _
 have hk1 : Blk w1 g 168 #[v, .map (some b)] := h.blk.only ho1 h.ne_g
 have hrow : ∀ x, zOb x w base → zOb x (w1.setCell ⟨g, 0, none⟩ v') base := fun x hx => by
  have h1 : zOb x w1 base := World.ownsRow.kept hx hg (zDs hx h.own (by decide))
  exact zAk h1 ho2 fun k hk e => zAe h1 hk1 (by decide) (by rw [hk, e])
 refine ⟨hk1.set_ 0 v', ?_, fun x hx => ?_, (h.map.only ho1 (zJa h.own h.map)).only ho2 (fun e => zHs h.blk h.map e.symm), fun x hx => ?_⟩
 ·rw [List.length_append, List.flatMap_append]
  refine zAk (v := v') (by simpa using hown) ho2 fun k hk e => zAe hown hk1 (by decide) (by rw [hk, e])
 ·rcases List.mem_append.1 hx with h1 | h1
  ·exact hrow x (h.rows x h1)
  ·rw [List.mem_singleton] at h1
   subst h1
   exact hrow x hp
 ·rcases List.mem_append.1 hx with h1 | h1
  ·exact h.wf x h1
  ·rw [List.mem_singleton] at h1
   subst h1
   exact hw
end
def PoPost (base g b m : Nat) (v : Value) (w : World) (l : List Po) (top : Int → Int → Int) (d : PoD) (e : Ending) (w' : World) : Prop :=
 ∃ v' p, e = .returned (.int .i64 l.length) ∧ p.d = d ∧ OfAt w' base g b v' (l ++ [p]) m top ∧ Only (fun k => k = g ∨ v.ownBlock = some k) w w' ∧
  (∀ k, v'.ownBlock = some k → v.ownBlock = some k ∨ w.heap.size ≤ k) ∧ (∀ k, (Value.slice p.A p.n p.c).ownBlock = some k → w.heap.size ≤ k)
set_option maxHeartbeats 1000000 in
theorem zRm (base g b m : Nat) (v : Value) (l : List Po) (top : Int → Int → Int) (w : World) (fr to_ : Int) (A : Option Addr) (n c : Nat) (data : List Int) (B : Nat) (h : OfAt w base g b v l m top) (hlm : l.length ≤ 1000000) (hdl : data.length = n) (hn : n ≤ 1000000)
    (hr : Reads w B 1 A n (data.map (.int .u8))) (hB : B ≤ w.heap.size) (hb0 : base ≤ w.heap.size) (hf : (Lit.int .i64 fr).wf = true) (ht : (Lit.int .i64 to_).wf = true) :
    Calls Tryz.prog 78 #[.pointer (some ⟨g, 0, none⟩), .int .i64 fr, .int .i64 to_, .slice A n c] w (PoPost base g b m v w l top ⟨fr, to_, data⟩) := by
 have HC := hide (fun W (hW : Below w.heap.size w W) => zMc A n c _ B W (zSc .u8 data) (by omega) (hr.below (hW.mono hB)) (Nat.le_trans hB hW.size))
 have HX := hide h
 obtain ⟨Al, cl, rfl, _⟩ := zAf h.own
 have c0 := h.c0
 have ce0 := fun n : Ext w => n.cell c0
 obtain ⟨i0, hi, hz0, hz1, hz2⟩ := zXy
 obtain ⟨q, hq⟩ : ∃ q, q = l.length := ⟨_, rfl⟩
 have hlm2 : l.length ≤ 1000000 := hlm
 rw [← hq] at ce0 hlm
 have HQ := hide hq
 have hMb : (q + 1) * 40 ≤ 140737488355328 := by omega
 clear h hr c0 hq
 go_enter Tryz.func78, Tryz.ntmps78
 go_upto_region 1 with fail
 rw [← zAa HQ]
 refine zEp [0] [1, 2, 3, 4, 5, 6, 7] [] [8, 9, 10] 11 [12, 13, 14] (by kernel_rfl) (by kernel_rfl) (by intro c a d v w h; cases d <;> exact h) ?_
 simp only [zAb, List.map_cons, List.map_nil, List.getD_cons_zero, List.getD_cons_succ]
 repeat (go_big_quiet_step (fail))
 refine wpQuiet_nil ?_
 repeat (go_big_quiet_step (fail))
 refine wpQuiet_nil (wpQuiet_nil ?_)
 rintro _ ⟨nq, rfl⟩
 simp only [wpAl]
 go_wp2_with fail
 refine (zAa HC _ nq.h).mono ?_
 rintro _ w2 ⟨v2, rfl, ho2, hb2⟩
 obtain ⟨A2, c2, rfl, _⟩ := zAf ho2
 have hk2 : Below w.heap.size w w2 := nq.h.trans (hb2.mono nq.h.size)
 have hs2 := hk2.size
 go_wp2_with fail
 refine ⟨⟨⟨_, hk2⟩, rfl⟩, ?_⟩
 go_wp2_with fail
 refine ⟨⟨⟨_, hk2⟩, rfl⟩, ?_⟩
 go_wp2_with fail
 refine ⟨⟨⟨_, hk2.alloc hs2 _⟩, rfl⟩, ?_⟩
 have HX2 := hide ((zAa HX).calm hk2)
 have HO2 := hide ho2
 have HN := hide nq.h.size
 have HK2 := hide hk2
 clear ho2 hb2
 go_wp2_with (first
  | (at_builtin; (refine zAl _ rfl (.tmp 13) (.tmp 19) _ rfl base 187 i0 _ 3 40 Tryz.underlying166 hi hz0 hz1 hz2 rfl (by omega) (by omega) _ _ _ (zAa HX2).own (by rw [← zAa HQ]; rfl) _ 1 _ rfl rfl rfl (by simp [Value.oneCell']) (by rw [← zAa HQ]; exact hMb) (by omega) ?_); intro g4 cap4 w4 hg4 hown4 hbel4 hgr4 hat4; have hk4 := (zAa HX2).blk.grown hgr4 (Ne.symm (zAa HX2).ne_g); have u0 := hk4.cell 0; have fu := hk4.frozen 0; have HK4 := hide (And.intro hown4 (And.intro hgr4 hat4)); clear hg4 hown4 hbel4 hgr4 hat4 hk4))
 have hfin := hide ((zAa HX2).grows (p := ⟨⟨fr, to_, data⟩, A2, n, c2⟩) (zBr (zAa HO2) (by have := zAa HN; omega)) ⟨hf, ht⟩ (zAa HK4).2.1 (zAa HK4).1)
 go_ret
 refine ⟨_, ⟨⟨fr, to_, data⟩, A2, n, c2⟩, by first | rfl | exact zBn (by omega), rfl, zAa hfin, ?_, fun k hk => ?_, fun k hk => ?_⟩
 ·have h1 : Only (fun k => k = g ∨ Value.ownBlock (.slice Al l.length cl) = some k) w w2 := Only.of_below (zAa HK2) fun x hx hB => by omega
  exact Only.setCell (h1.grown (zAa HK4).2.1 (fun x hx _ => .inr hx)) (fun _ => .inl rfl) _
 ·have hk' : g4 = k := by simpa [Value.ownBlock] using hk
  rcases (zAa HK4).2.2 with h1 | h1
  ·exact .inl (by rw [← hk', h1])
  ·right; omega
 ·have := ((zAa HO2).lt k hk).1
  have := zAa HN
  omega
end
section
open Go.RowKit
def zIj (l : List PoD) (top : Int → Int → Int) (to_ id : Int) : (Int → Int → Int) × List Int × Int :=
 if toP l id < 0 then (top, [], 6) else if toP l id ≠ to_ then (top, [], 11) else
  match l[id.toNat]? with
  | none => (top, [], 6)
  | some p => if id < top p.fr p.to_ then (top, [], 10) else (fun f t => if f = p.fr ∧ t = p.to_ then id + 1 else top f t, p.data, 0)
def OpPost (base g b m : Nat) (v : Value) (w : World) (l : List Po) (r : (Int → Int → Int) × List Int × Int) (e : Ending) (w' : World) : Prop :=
 ∃ A n c, e = .returned (.tuple #[.slice A n c, .int .i64 r.2.2]) ∧ w'.ownsRow w.heap.size 5 1 (.slice A n c) n (r.2.1.map (.int .u8)) ∧ OfAt w' base g b v l (m + 1) r.1 ∧ Only (fun k => k = b) w w'
theorem OfAt.more {w : World} {base g b m m' : Nat} {v : Value} {l : List Po} {top : Int → Int → Int} (h : OfAt w base g b v l m top) (hm : m ≤ m') : OfAt w base g b v l m' top := ⟨h.blk, h.own, h.rows, h.map.mono hm, h.wf⟩
theorem OfAt.stored {w w' : World} {base g b m : Nat} {v : Value} {l : List Po} {top top' : Int → Int → Int} (h : OfAt w base g b v l m top) (hm : WayMap w' b (m + 1) top') (hg : w.grownBy w' (some b)) : OfAt w' base g b v l (m + 1) top' := by
 have ho : Only (fun k => k = b) w w' := (Only.refl _ _).grown hg fun k hk _ => (by simpa using hk.symm)
 exact ⟨h.blk.only ho (zHs h.blk h.map), zAk h.own ho (fun k hk e => zJa h.own h.map (by rw [hk, e])), fun p hp => zAk (h.rows p hp) ho (fun k hk e => zJa (h.rows p hp) h.map (by rw [hk, e])), hm, h.wf⟩
theorem zLv {w w' : World} {base g b m : Nat} {v : Value} {l : List Po} {top : Int → Int → Int} {c : Int} (h : OfAt w base g b v l m top) (hb : Below w.heap.size w w') : OpPost base g b m v w l (top, [], c) (.returned (.tuple #[.slice none 0 0, .int .i64 c])) w' :=
 ⟨none, 0, 0, rfl, World.ownsRow_nil _ _ _ _, (h.calm hb).more (Nat.le_succ _), Only.of_below hb fun x h1 h2 => by omega⟩
set_option maxRecDepth 100000 in
set_option maxHeartbeats 1000000 in
theorem zRs (base g b m : Nat) (v : Value) (l : List Po) (top : Int → Int → Int) (w : World) (to_ id : Int) (h : OfAt w base g b v l m top) (hlm : l.length ≤ 1000000) (hm : m < maxLen) (hb0 : base ≤ w.heap.size) (hbytes : ∀ p ∈ l, p.n ≤ 1000000) (hw : (Lit.int .i64 to_).wf = true) :
    Calls Tryz.prog 84 #[.pointer (some ⟨g, 0, none⟩), .int .i64 to_, .int .i64 id] w (OpPost base g b m v w l (zIj (l.map (·.d)) top to_ id)) := by
 have HT := hide (zHt base g b m v l top w id h (by omega))
 by_cases h1 : toP (l.map (·.d)) id < 0
 ·have HF := hide (show zIj (l.map (·.d)) top to_ id = (top, [], 6) from if_pos h1)
  have HX := hide h
  generalize toP (l.map (·.d)) id = who at HT h1
  have hd1 : decide (who < 0) = true := decide_eq_true h1
  clear h
  go_enter Tryz.func84, Tryz.ntmps84
  go_wp2_with fail
  refine (zAa HT).mono ?_
  rintro _ _ ⟨rfl, rfl⟩
  go_wp2_with fail
  go_ret2
  rw [zAa HF]
  exact zLv (zAa HX) (Below.refl _ _)
 by_cases h2 : toP (l.map (·.d)) id ≠ to_
 ·have HF := hide (show zIj (l.map (·.d)) top to_ id = (top, [], 11) by unfold zIj; rw [if_neg h1, if_pos h2])
  have HX := hide h
  generalize toP (l.map (·.d)) id = who at HT h1 h2
  have hd1 : decide (who < 0) = false := decide_eq_false h1
  have hd2 : (who != to_) = true := by simpa using h2
  clear h
  go_enter Tryz.func84, Tryz.ntmps84
  go_wp2_with fail
  refine (zAa HT).mono ?_
  rintro _ _ ⟨rfl, rfl⟩
  go_wp2_with fail
  go_ret2
  rw [zAa HF]
  exact zLv (zAa HX) (Below.refl _ _)
 have h2' : toP (l.map (·.d)) id = to_ := Classical.not_not.1 h2
 have hid : ¬ id < 0 := fun e => h1 (by unfold toP; rw [if_pos e]; decide)
 obtain ⟨k, rfl⟩ := Int.eq_ofNat_of_zero_le (show 0 ≤ id by omega)
 have hkl : k < l.length := Nat.not_le.1 fun e => h1 (by unfold toP; rw [if_neg hid, Int.toNat_natCast, List.getElem?_map, List.getElem?_eq_none e]; decide)
 obtain ⟨A, c, rfl, _⟩ := zAf h.own
 obtain ⟨bl, o, x, rfl, hbl, hx, hc⟩ := zCf Po.cells_len (by omega) (Reads.of_own h.own) hkl rfl
 have hxm := List.mem_of_getElem? hx
 have hrow := h.rows x hxm
 have hxw := h.wf x hxm
 have hxn := hbytes x hxm
 obtain ⟨⟨fr, to2, data⟩, A2, n2, c2⟩ := x
 have hto : to2 = to_ := by
  rw [← h2']; unfold toP; rw [if_neg hid, Int.toNat_natCast, List.getElem?_map, hx]; rfl
 subst hto
 have HS := hide (show zIj (l.map (·.d)) top to2 k = if (k : Int) < top fr to2 then (top, [], 10) else (fun f t => if f = fr ∧ t = to2 then (k : Int) + 1 else top f t, data, 0) by
  unfold zIj; rw [if_neg h1, if_neg h2, Int.toNat_natCast, List.getElem?_map, hx]; rfl)
 rw [h2'] at HT h1
 have hd1 : decide (to2 < 0) = false := decide_eq_false h1
 have d0 := hc 0 _ rfl
 have d1 := hc 1 _ rfl
 have d2 := hc 2 _ rfl
 have e0 := h.c0
 have e1 := h.c1
 simp only [Nat.add_zero] at d0
 dsimp only at d0 d1 d2 hrow hxn hxw
 obtain ⟨q, hq⟩ : ∃ q, q = l.length := ⟨_, rfl⟩
 rw [← hq] at e0 hlm hkl
 have HQ := hide hq
 have hkq : (k : Int) < (q : Int) := by omega
 have HX := hide h
 have HR := hide hrow
 obtain ⟨wx, hwx⟩ : ∃ wx, wx = w.alloc (.cells #[.int .i64 fr, .int .i64 to2, .slice A2 n2 c2] 187) := ⟨_, rfl⟩
 obtain ⟨wy, hwy⟩ : ∃ wy, wy = wx.alloc (.cells #[.int .i64 fr, .int .i64 to2] 194) := ⟨_, rfl⟩
 have hbx : Below w.heap.size w wx := by rw [hwx]; exact (Below.refl _ _).alloc (Nat.le_refl _) _
 have hby : Below w.heap.size w wy := by rw [hwy]; exact hbx.alloc hbx.size _
 have kx : Blk wx w.heap.size 187 #[.int .i64 fr, .int .i64 to2, .slice A2 n2 c2] := by rw [hwx]; exact Blk.new w 187 _
 have hsx : wx.heap.size = w.heap.size + 1 := by rw [hwx]; simp
 have kx2 : Blk wy w.heap.size 187 #[.int .i64 fr, .int .i64 to2, .slice A2 n2 c2] := by rw [hwy]; exact kx.alloc _
 have ky : Blk wy (w.heap.size + 1) 194 #[.int .i64 fr, .int .i64 to2] := by rw [hwy, ← hsx]; exact Blk.new wx 194 _
 have hxy := h.calm hby
 have y1 := hxy.c1
 have z0 := ky.cell 0
 have z1 := ky.cell 1
 have hlk := fun n : Nat => (hxy.map.only (D := fun _ => False) ((Only.refl _ wy).drewN n) (fun e => e)).look fr to2 hxw.1 hxw.2
 have HLK := hide hlk
 unfold wayV at hlk
 have HM := hide hxy.map
 have HXY := hide hxy
 have HBY := hide hby
 have HKX := hide kx2
 have HKY := hide ky
 rw [hwx] at hwy
 have HWY := hide hwy
 have hgn : ¬ g = w.heap.size := fun e => by have := h.blk.lt; omega
 have hgn1 : ¬ g = w.heap.size + 1 := fun e => by have := h.blk.lt; omega
 clear h hx hc hwx hwy hbx hby kx kx2 ky hxy hq hsx hrow h2 h2' h1
 go_enter Tryz.func84, Tryz.ntmps84
 go_wp2_with fail
 refine (zAa HT).mono ?_
 rintro _ _ ⟨rfl, rfl⟩
 go_wp2_with fail
 rw [← zAa HWY]
 clear d0 d1 d2 e0 e1
 by_cases hold : (k : Int) < top fr to2
 ·have HF := hide (show zIj (l.map (·.d)) top to2 k = (top, [], 10) by rw [zAa HS, if_pos hold])
  generalize top fr to2 = tt at hlk hold
  go_quiet (fail)
  go_wp2_with fail
  go_ret2
  rw [zAa HF]
  exact zLv (zAa HX) (below_drewN (zAa HBY) nq)
 ·have HF := hide (show zIj (l.map (·.d)) top to2 k = (fun f t => if f = fr ∧ t = to2 then (k : Int) + 1 else top f t, data, 0) by rw [zAa HS, if_neg hold])
  have hold' : top fr to2 ≤ (k : Int) := by omega
  clear hold
  generalize top fr to2 = tt at hlk hold'
  go_quiet (fail)
  obtain ⟨na, rfl⟩ : ∃ m, m = nq := ⟨_, rfl⟩
  go_wp2_with fail
  refine zCo 7 (by kernel_rfl) (by kernel_rfl) ?_
  simp only [List.take_succ_cons, List.take_zero, List.drop_succ_cons, List.drop_zero]
  repeat (go_big_quiet_step (fail))
  refine wpQuiet_nil ?_
  rintro _ ⟨nq2, rfl⟩
  have hbn : Below w.heap.size w (wy.drewN (na + nq2)) := below_drewN (zAa HBY) _
  obtain ⟨w5, hrun, hmap5, hg5⟩ := ((zAa HM).only (D := fun _ => False) ((Only.refl _ wy).drewN (na + nq2)) (fun e => e)).store fr to2 ((k : Int) + 1) hxw.1 hxw.2 (by
   have hmin : IntKind.i64.min = -9223372036854775808 := rfl
   have hmax : IntKind.i64.max = 9223372036854775807 := rfl
   simp only [Lit.wf, Bool.and_eq_true, decide_eq_true_eq]
   omega) hm
  have hx5 := ((zAa HX).calm hbn).stored hmap5 hg5
  have ho5 : Only (fun k => k = b) w w5 := (Only.of_below hbn fun x h1 h2 => by omega).grown hg5 fun k hk _ => (by simpa using hk.symm)
  have hrow5 : zOb ⟨⟨fr, to2, data⟩, A2, n2, c2⟩ w5 base := zAk (zAa HR) ho5 (fun k hk e => zJa (zAa HR) (zAa HX).map (by rw [hk, e]))
  have hne : ¬ w.heap.size = b := fun e => by have := (zAa HX).map.lt; omega
  have k5 : Blk w5 w.heap.size 187 #[.int .i64 fr, .int .i64 to2, .slice A2 n2 c2] := ((zAa HKX).below (below_drewN (Below.refl _ wy) (na + nq2)) (zAa HKX).lt).grown hg5 (fun e => hne (by simpa using e))
  have x2 := k5.cell 2
  have HCL := hide (zMc A2 n2 c2 _ w5.heap.size w5 (zSc .u8 data) (by omega) (Reads.of_own hrow5) (Nat.le_refl _))
  have HX5 := hide hx5
  have HO5 := hide ho5
  unfold wayV at hrun
  clear hmap5 hg5 hx5 ho5 hrow5 k5 hbn
  go_wp2_with fail
  refine (zAa HCL).mono ?_
  rintro _ w6 ⟨v6, rfl, ho6, hb6⟩
  obtain ⟨A6, c6, rfl, _⟩ := zAf ho6
  have HO6 := hide ho6
  have HB6 := hide hb6
  clear ho6 hb6
  go_wp2_with fail
  go_ret2
  rw [zAa HF]
  exact ⟨A6, n2, c6, rfl, zBr (zAa HO6) (zAa HO5).size, (zAa HX5).calm (zAa HB6), (zAa HO5).calm (zAa HB6)⟩
end
section
open Go.RowKit
open Go.Maps (Keyed)
theorem yCa (w : World) : (zeroValue 4).run Tryz.prog w = .ok (.bool false) w := by kernel_rfl
theorem lost_law : Keyed Tryz.prog 3 := Maps.int_keyed Tryz.underlying3
theorem zOx (n : Int) (h : (Lit.int .i64 n).wf = true) : keyOf Tryz.prog 3 (.int .i64 n) = some (.int .i64 n) := Maps.keyOf_int_mk Tryz.underlying3 h
set_option maxRecDepth 100000 in
theorem zNb {v : Value} {z : DataW Unit × List MemPlace} (h : plainElem Tryz.prog 4 v = some z) : ∃ x, v = .bool x ∧ z = (.lit (.bool x), []) := by
 unfold plainElem at h
 rw [Tryz.underlying4] at h
 cases v <;> simp at h
 exact ⟨_, rfl, h.symm⟩
def LostMap (w : World) (b n : Nat) (top : Int → Bool) : Prop :=
 ∃ D : DataW Unit, w.ownsMap Tryz.prog 3 (plainElem Tryz.prog 4) b n D ∧ ∀ k, (Lit.int .i64 k).wf = true → D.atKey (.int .i64 k) (.lit (.bool false)) = .lit (.bool (top k))
section
variable {w w' : World} {b n : Nat} {top : Int → Bool}
theorem LostMap.made (w : World) : LostMap (w.alloc (.map #[] 0)) w.heap.size 0 (fun _ => false) :=
 ⟨.map [], World.ownsMap_made w _ _ _, fun k _ => WideAt.atKey_none _ (fun p hp => by cases hp)⟩
theorem LostMap.lt (h : LostMap w b n top) : b < w.heap.size := by obtain ⟨D, h, _⟩ := h; exact h.lt
theorem LostMap.only {D : Nat → Prop} (h : LostMap w b n top) (ho : Only D w w') (hn : ¬ D b) : LostMap w' b n top := by
 have hlt := h.lt
 obtain ⟨E, ⟨es, clock, hb, r⟩, k⟩ := h
 exact ⟨E, ⟨es, clock, (ho.block b hlt hn).trans hb, r⟩, k⟩
theorem LostMap.below (h : LostMap w b n top) (hb : Below w.heap.size w w') : LostMap w' b n top := h.only (D := fun _ => False) (Only.of_below hb (fun x h1 h2 => by omega)) (fun e => e)
theorem LostMap.look (h : LostMap w b n top) (k : Int) (hf : (Lit.int .i64 k).wf = true) :
    (Instr.lookup 70 (.map (some b)) (.int .i64 k) false).run Tryz.prog w = .ok (.bool (top k)) w := by
 obtain ⟨D, h, hk⟩ := h
 obtain ⟨v, ps, hrun, hv⟩ := h.lookup lost_law Tryz.underlying70 (yCa w) (plainElem_bool Tryz.underlying4 false) (zOx k hf)
 obtain ⟨x, rfl, hx⟩ := zNb hv
 have h1 : top k = x := Lit.bool.inj (DataW.lit.inj ((hk k hf).symm.trans (Prod.mk.inj hx).1))
 exact hrun.trans (by rw [h1])
theorem LostMap.store (h : LostMap w b n top) (k : Int) (v : Bool) (hf : (Lit.int .i64 k).wf = true) (hn : n < maxLen) :
    ∃ w', (Instr.mapUpdate 70 (.map (some b)) (.int .i64 k) (.bool v)).run Tryz.prog w = .ok () w' ∧ LostMap w' b (n + 1) (fun j => if j = k then v else top j) ∧ w.grownBy w' (some b) := by
 obtain ⟨D, h, hk⟩ := h
 obtain ⟨w', hrun, hown, hg⟩ := h.update lost_law Tryz.underlying70 hn (zOx k hf) (plainElem_bool Tryz.underlying4 v)
 refine ⟨w', hrun, ⟨_, hown, fun j hj => ?_⟩, hg⟩
 show _ = DataW.lit (Lit.bool (if j = k then v else top j))
 by_cases he : j = k
 ·subst he
  rw [if_pos rfl]
  exact Maps.atKey_put_same h.isMap (lost_law.key (zOx j hf)) _ _
 ·rw [if_neg he, Maps.atKey_put_other (fun e => he ?_)]
  ·exact hk j hj
  ·injection e
end
end
section
open Go.RowKit
theorem zTj (w : World) (base : Nat) : Calls Tryz.prog 60 #[] w fun e w' => ∃ g b, e = .returned (.pointer (some ⟨g, 0, none⟩)) ∧ OfAt w' base g b (.slice none 0 0) [] 0 (fun _ _ => 0) ∧ Below w.heap.size w w' ∧ w.heap.size ≤ g ∧ w.heap.size ≤ b := by
 have hmm := @run_makeMap Tryz.prog
 go_enter Tryz.func60, Tryz.ntmps60
 go_wp2_with fail
 go_ret
 have hb1 : Below w.heap.size w (w.alloc (.map #[] 0)) := (Below.refl _ _).alloc (Nat.le_refl _) _
 have hk : Blk ((w.alloc (.map #[] 0)).alloc (.cells #[.slice none 0 0, .map (some w.heap.size)] 168)) (w.heap.size + 1) 168 #[.slice none 0 0, .map (some w.heap.size)] := by
  have h := Blk.new (w.alloc (.map #[] 0)) 168 #[.slice none 0 0, .map (some w.heap.size)]
  simpa using h
 exact ⟨w.heap.size + 1, w.heap.size, rfl, ⟨hk, World.ownsRow_nil _ _ _ _, (fun p hp => by cases hp), (WayMap.made w).below ((Below.refl _ _).alloc (Nat.le_refl _) _), (fun p hp => by cases hp)⟩, hb1.alloc (by simp) _, Nat.le_succ _, Nat.le_refl _⟩
end
end Go.Proofs.YtbolcebmbpepdaaGreatDoor
