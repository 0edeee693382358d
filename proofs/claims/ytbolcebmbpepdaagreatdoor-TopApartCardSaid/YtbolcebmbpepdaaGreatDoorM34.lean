/- Contracts and plain facts, set together by program out of smaller texts. Conditions: none beyond what each theorem states. -/
import Derived.Test.YtbolcebmbpepdaaGreatDoorM31
import Derived.Test.YtbolcebmbpepdaaGreatDoorM33
import Derived.Test.YtbolcebmbpepdaaGreatDoorM04
import Derived.Test.YtbolcebmbpepdaaGreatDoorM01
import Derived.Test.YtbolcebmbpepdaaGreatDoorM06
namespace Go.Proofs.YtbolcebmbpepdaaGreatDoor
set_option linter.unusedVariables false
section
open Go.RowKit
section
variable {P : Program} {Q : Exit → Act → World → Prop} {C : World → Prop}
theorem zPl {id : Nat} {a : Act} {w : World} {l : List Oper} (hb al : List Nat) (u : Nat) (tl : List Nat) (hm : P.follows .mixedOrders = true) (hB : zNy .any l.toArray [] hb [] al u tl = true) (hQ : ∀ c a d v w, Q (.panic c) (a.put d v) w → Q (.panic c) a w) (hC : C w.drew)
    (h : wpQuiet P l.toArray C (fun a' => wpAl P l.toArray Q C (fun a2 w2 => wpList P l.toArray Q (zAb l (u :: tl)) a2 w2) (zAb l al) a' w.drew) (zAb l hb) a) : (Code.region id l.toArray true).wp P Q a w := by
 simp only [zNy, Bool.and_eq_true, decide_eq_true_eq, List.all_eq_true, List.append_nil] at hB
 obtain ⟨⟨⟨⟨⟨⟨⟨⟨⟨⟨⟨⟨⟨hsel, hs1⟩, hc1⟩, hs2⟩, hc2⟩, hd1⟩, hd2⟩, hlt⟩, hzlt⟩, hlen⟩, hcov⟩, hz⟩, hhb⟩, hlex⟩ := hB
 have hdis : ∀ k ∈ u :: tl, k ∉ hb ++ al := fun k hk hc => by have := hd1 k hc; simp only [Bool.not_eq_true', List.contains_eq_mem, decide_eq_false_iff_not] at this; exact this hk
 have inv0 : HeadBy .any l.toArray (u :: tl) (Array.replicate l.toArray.size false) :=
  ⟨by simp, fun j oj _ hl => (by rw [getD_replicate_false] at hl; cases hl), fun x hx => getD_in (by have := hlt x (List.mem_append.2 (.inr hx)); simpa using this) (getD_replicate_false _ _)⟩
 have hI1 : ∀ listed j, HeadBy .any l.toArray (u :: tl) listed → j ∈ Region.ready .any l.toArray listed → j ∈ hb ++ al → HeadBy .any l.toArray (u :: tl) (listed.setIfInBounds j true) :=
  fun listed j h hj hc => h.set hj (fun hx => hdis j hx hc)
 have hw1 : ∀ i, i ∈ hb ++ al → ∀ listed j, HeadBy .any l.toArray (u :: tl) listed → listed.getD i true = false → j ∈ Region.ready .any l.toArray listed → j ∈ hb ++ al := by
  intro i hi listed j hI hun hj
  obtain ⟨hjun, oj, hoj, _⟩ := mem_ready.1 hj
  have hjs : j < l.toArray.size := (Array.getElem?_eq_some_iff.1 hoj).1
  have hcj := hcov j (List.mem_range.2 hjs)
  simp only [Bool.or_eq_true, List.contains_eq_mem, decide_eq_true_eq] at hcj
  rcases hcj with (h1 | h1) | h1
  ·cases h1
  ·exact h1
  ·exfalso
   rcases List.mem_cons.1 h1 with rfl | h2
   ·exact zFx hI _ hs1 i hi hun hj
   ·exact zGo tl u hc1 hI.tail j h2 hj
 refine wp_region_any hm ?_
 suffices H2 : wpAny P .any l.toArray Q (hb.length + (al ++ u :: tl).length) (Array.replicate l.toArray.size false) a { w with drawn := w.drawn + 1 } by
  rw [List.length_nil, Nat.zero_add, Nat.zero_add] at hlen
  rw [hlen] at H2; exact H2
 refine zEn (C := C) (cal := hb ++ al) _ _ _ _ ?_
 refine zFq hsel hQ (fun listed => HeadBy .any l.toArray (u :: tl) listed) hI1 hw1 hC hb _ a inv0 (fun i hi => by simp [hi]) hhb h ?_
 intro a2 hI2 h2
 exact zNg al _ a2 _ hdis hlex h2
end
structure TkA (w : World) (c : Cfg) (y : Lay) (S : WS) (K base : Nat) (ow : Nat → Tag) (tb wb : Nat) (t : Tol) (W : World) (ow1 : Nat → Tag) : Prop where
 pw : PW W c y S K base ow1
 kept : Kept w W ow ow1
 tn : ow1 tb = .no
 wn : ow1 wb = .no
 bw : base ≤ w.heap.size
 tl : w.heap.size ≤ tb
 wl : w.heap.size ≤ wb
 tk : Blk W tb 57 t.cells.toArray
 wk : Blk W wb 60 #[.pointer (some ⟨y.hb, 0, none⟩)]
 own : TolOwn t W w.heap.size
 no : TolNo t ow1
section
variable {w W W' : World} {c : Cfg} {y : Lay} {S S' : WS} {K base tb wb : Nat} {ow ow1 ow2 : Nat → Tag} {t : Tol}
theorem TolNo.turn (h : TolNo t ow1) (ho : TolOwn t W base) (hk : Kept W W' ow1 ow2) : TolNo t ow2 := fun v hv k hk' => by
 rw [hk.old k ?_]
 ·exact h v hv k hk'
 ·rcases hv with rfl | rfl | rfl
  ·exact (ho.so.lt k hk').2
  ·exact (ho.fo.lt k hk').2
  ·exact (ho.ro.lt k hk').2
theorem TolOwn.kept (h : TolOwn t W base) (hn : TolNo t ow1) (hk : Kept W W' ow1 ow2) : TolOwn t W' base :=
 ⟨hk.own h.so (hn _ (Or.inl rfl)), hk.own h.fo (hn _ (Or.inr (Or.inl rfl))), hk.own h.ro (hn _ (Or.inr (Or.inr rfl)))⟩
theorem TkA.turn (h : TkA w c y S K base ow tb wb t W ow1) (hp : PW W' c y S' K base ow2) (hk : Kept W W' ow1 ow2) : TkA w c y S' K base ow tb wb t W' ow2 :=
 ⟨hp, h.kept.trans hk, (hk.old tb h.tk.lt).trans h.tn, (hk.old wb h.wk.lt).trans h.wn, h.bw, h.tl, h.wl, hk.blk h.tk h.tn, hk.blk h.wk h.wn, h.own.kept h.no hk, h.no.turn h.own hk⟩
theorem TkA.calm (h : TkA w c y S K base ow tb wb t W ow1) (hb : Below W.heap.size W W') : TkA w c y S K base ow tb wb t W' ow1 := h.turn (h.pw.calm hb) (Kept.calm hb)
end
section
variable {w W W' : World} {c : Cfg} {y : Lay} {S S' : WS} {K base tb wb : Nat} {ow ow1 ow2 : Nat → Tag} {t : Tol} {D : Nat → Prop}
theorem TkA.touch (h : TkA w c y S K base ow tb wb t W ow1) (ho : Only D W W') (hD : ∀ k, k < W.heap.size → D k → w.heap.size ≤ k ∧ ow1 k = .no) : PW W' c y S K base ow1 ∧ Kept w W' ow ow1 :=
 ⟨h.pw.far (D := fun k => k < W.heap.size ∧ D k) (ho.mono fun x hx hd => ⟨hx, hd⟩) (fun k hk hd => (hD k hk hd.2).2) (fun k hk hd => by have := (hD k hd.1 hd.2).1; have := h.bw; omega),
  ⟨h.kept.only.trans ho (fun x hx hd => by have := (hD x (Nat.lt_of_lt_of_le hx h.kept.only.size) hd).1; omega), h.kept.old⟩⟩
theorem TkA.rowD (h : TkA w c y S K base ow tb wb t W ow1) {v : Value} (hv : v = Value.slice t.sA t.sn t.sc ∨ v = Value.slice t.fA t.fn t.fc ∨ v = Value.slice t.rA t.rn t.rc) {k : Nat} (hk : v.ownBlock = some k) : (w.heap.size ≤ k ∧ k < W.heap.size) ∧ ow1 k = .no := by
 refine ⟨?_, h.no v hv k hk⟩
 rcases hv with rfl | rfl | rfl
 ·exact h.own.so.lt k hk
 ·exact h.own.fo.lt k hk
 ·exact h.own.ro.lt k hk
end
def zLh (d : TolD) (l : List Envl) : TolD := { d with sent := d.sent ++ l }
def zPd (w : World) (c : Cfg) (y : Lay) (S : WS) (K base : Nat) (ow : Nat → Tag) (tb wb : Nat) (t : Tol) (p : PoD) (W : World) (ow1 : Nat → Tag) (e : Ending) (W' : World) : Prop :=
 e = .returned (.tuple #[]) ∧ ∃ (t2 : Tol) (ow2 : Nat → Tag), TkA w c y (S.posts [p]) K base ow tb wb t2 W' ow2 ∧ t2.d = zLh t.d [⟨S.lts.length, p.fr, p.to_, p.data.length⟩] ∧ (t2.fA = t.fA ∧ t2.fn = t.fn ∧ t2.fc = t.fc) ∧ (t2.rA = t.rA ∧ t2.rn = t.rn ∧ t2.rc = t.rc) ∧
  Only (fun k => ow1 k ≠ .no ∨ k = tb ∨ (Value.slice t.sA t.sn t.sc).ownBlock = some k) W W' ∧ ∀ k, k < W.heap.size → ow2 k = ow1 k
structure SndL (tb wb hb og : Nat) (cs : Array Value) where
 W : World
 t : Blk W tb 57 cs
 b : Blk W wb 60 #[.pointer (some ⟨hb, 0, none⟩)]
 o : W.cell? ⟨hb, 7, none⟩ = some (.pointer (some ⟨og, 0, none⟩))
theorem yCo : ∃ i, Tryz.prog.info? 111 = some i ∧ i.zero = some (.agg #[.int .i64 0, .int .i64 0, .int .i64 0, .int .i64 0]) ∧ i.size = 4 ∧ i.bytes = 32 := zEm (by kernel_rfl)
section
variable {w W : World} {c : Cfg} {y : Lay} {S : WS} {K base tb wb : Nat} {ow ow1 : Nat → Tag} {t : Tol}
theorem tol_set8 (t : Tol) (A : Option Addr) (n cc : Nat) (l : List Envl) : t.cells.toArray.setIfInBounds 8 (.slice A n cc) = (Tol.cells { t with d := zLh t.d l, sA := A, sn := n, sc := cc }).toArray := by
 simp [Tol.cells, zLh]
theorem TkA.grownS {W2 w4 : World} {ow2 : Nat → Tag} (h : TkA w c y S K base ow tb wb t W2 ow2) (hg : W2.grownBy w4 (Value.slice t.sA t.sn t.sc).ownBlock) : PW w4 c y S K base ow2 ∧ Blk w4 tb 57 t.cells.toArray ∧ Blk w4 wb 60 #[.pointer (some ⟨y.hb, 0, none⟩)] := by
 have o1 : Only (fun k => (Value.slice t.sA t.sn t.sc).ownBlock = some k) W2 w4 := (Only.refl _ W2).grown hg (fun g hg _ => hg)
 exact ⟨(h.touch o1 fun k _ hd => ⟨(h.rowD (Or.inl rfl) hd).1.1, (h.rowD (Or.inl rfl) hd).2⟩).1, h.tk.only o1 (zAe h.own.so h.tk (by decide)), h.wk.only o1 (zAe h.own.so h.wk (by decide))⟩
theorem TkA.send {W2 w4 : World} {ow2 : Nat → Tag} {l : List Envl} {g4 cap4 : Nat} (h : TkA w c y S K base ow tb wb t W2 ow2) (hg : W2.grownBy w4 (Value.slice t.sA t.sn t.sc).ownBlock) (hown : w4.ownsRow w.heap.size 111 4 (.slice (some ⟨g4, 0, none⟩) (t.sn + 1) cap4) (t.sn + 1) (t.d.sent.flatMap Envl.cells ++ l.flatMap Envl.cells))
    (hat : some g4 = (Value.slice t.sA t.sn t.sc).ownBlock ∨ g4 = W2.heap.size + 1) :
    TkA w c y S K base ow tb wb { t with d := zLh t.d l, sA := some ⟨g4, 0, none⟩, sn := t.sn + 1, sc := cap4 } (w4.setCell ⟨tb, 8, none⟩ (.slice (some ⟨g4, 0, none⟩) (t.sn + 1) cap4)) ow2 ∧ Only (fun k => k = tb ∨ (Value.slice t.sA t.sn t.sc).ownBlock = some k) W2 (w4.setCell ⟨tb, 8, none⟩ (.slice (some ⟨g4, 0, none⟩) (t.sn + 1) cap4)) := by
 have o1 : Only (fun k => (Value.slice t.sA t.sn t.sc).ownBlock = some k) W2 w4 := (Only.refl _ W2).grown hg (fun g hg _ => hg)
 have o2 : Only (fun k => k = tb) w4 (w4.setCell ⟨tb, 8, none⟩ (.slice (some ⟨g4, 0, none⟩) (t.sn + 1) cap4)) := zAg (Only.refl _ _) _ _
 have o3 : Only (fun k => k = tb ∨ (Value.slice t.sA t.sn t.sc).ownBlock = some k) W2 (w4.setCell ⟨tb, 8, none⟩ (.slice (some ⟨g4, 0, none⟩) (t.sn + 1) cap4)) := (o1.mono fun x _ h => Or.inr h).trans o2 fun x _ h => Or.inl h
 have k4 : Blk w4 tb 57 t.cells.toArray := h.tk.only o1 (zAe h.own.so h.tk (by decide))
 have hD : ∀ k, k < W2.heap.size → (k = tb ∨ (Value.slice t.sA t.sn t.sc).ownBlock = some k) → w.heap.size ≤ k ∧ ow2 k = .no := fun k _ hd => by
  rcases hd with rfl | hd
  ·exact ⟨h.tl, h.tn⟩
  ·exact ⟨(h.rowD (Or.inl rfl) hd).1.1, (h.rowD (Or.inl rfl) hd).2⟩
 have hn : ∀ {e : TypeId} {size n : Nat} {v : Value} {xs : List Value}, W2.ownsRow w.heap.size e size v n xs → e ≠ 111 → e ≠ 57 → (w4.setCell ⟨tb, 8, none⟩ (.slice (some ⟨g4, 0, none⟩) (t.sn + 1) cap4)).ownsRow w.heap.size e size v n xs := fun hv h1 h2 =>
  zAk hv o3 fun k hk hd => by
   rcases hd with rfl | hd
   ·exact zAe hv h.tk h2 hk
   ·rcases zDs hv h.own.so h1 with e1 | e1
    ·rw [e1] at hk; cases hk
    ·exact e1 (by rw [hk, hd])
 have hown' : w4.ownsRow w.heap.size 111 4 (.slice (some ⟨g4, 0, none⟩) (t.sn + 1) cap4) (t.sn + 1) ((zLh t.d l).sent.flatMap Envl.cells) := by
  show w4.ownsRow _ _ _ _ _ ((t.d.sent ++ l).flatMap Envl.cells)
  rw [List.flatMap_append]
  exact hown
 obtain ⟨hp, hk⟩ := h.touch o3 hD
 refine ⟨⟨hp, hk, h.tn, h.wn, h.bw, h.tl, h.wl, ?_, h.wk.only o3 (fun hd => ?_), ⟨zAk hown' o2 (fun k hk e => zAe hown k4 (by decide) (by rw [hk, e])), hn h.own.fo (by decide) (by decide), hn h.own.ro (by decide) (by decide)⟩, fun v hv k hk => ?_⟩, o3⟩
 ·rw [← tol_set8]
  exact k4.set_ 8 _
 ·rcases hd with e | e
  ·exact Blk.ne_ h.wk h.tk (by decide) e
  ·exact zAe h.own.so h.wk (by decide) e
 ·rcases hv with rfl | hv
  ·have : k = g4 := by simpa [Value.ownBlock] using hk.symm
   subst this
   rcases hat with e | e
   ·exact (h.rowD (Or.inl rfl) e.symm).2
   ·exact h.pw.fresh _ (by omega)
  ·exact h.no v (Or.inr hv) k hk
set_option maxRecDepth 100000 in
set_option maxHeartbeats 4000000 in
theorem zJp (h : TkA w c y S K base ow tb wb t W ow1) (hl : S.lts.length ≤ 1000000) (fr to_ : Int) (er : Value) (A : Option Addr) (n cc : Nat) (data : List Int) (B : Nat) (hdl : data.length = n) (hn : n ≤ 1000000) (hr : Reads W B 1 A n (data.map (.int .u8))) (hB : B ≤ W.heap.size)
    (hf : (Lit.int .i64 fr).wf = true) (ht : (Lit.int .i64 to_).wf = true) (hs : t.sn ≤ 1000000) :
    Calls Tryz.prog 77 #[.int .i64 fr, .int .i64 to_, .slice A n cc, er, .pointer (some ⟨tb, 0, none⟩), .pointer (some ⟨wb, 0, none⟩)] W (zPd w c y S K base ow tb wb t ⟨fr, to_, data⟩ W ow1) := by
 obtain ⟨iE, hiE, hzE, hsE, hyE⟩ := yCo
 have hd := h.calm (Below.refl _ W).drew
 have HPO := hide (zQq hd.pw hl fr to_ A n cc data B hdl hn hr hB hf ht)
 have HH := hide h
 have HL := hide hdl
 go_enter Tryz.func77, Tryz.ntmps77
 obtain ⟨cs, hcs⟩ : ∃ cs, cs = t.cells.toArray := ⟨_, rfl⟩
 have r8 : ∀ n2 : SndL tb wb y.hb y.og cs, n2.W.cell? ⟨tb, 8, none⟩ = some (.slice t.sA t.sn t.sc) := fun n2 => by rw [n2.t.cell 8, hcs]; rfl
 have rb : ∀ n2 : SndL tb wb y.hb y.og cs, n2.W.cell? ⟨wb, 0, none⟩ = some (.pointer (some ⟨y.hb, 0, none⟩)) := fun n2 => n2.b.cell 0
 have ro : ∀ n2 : SndL tb wb y.hb y.og cs, n2.W.cell? ⟨y.hb, 7, none⟩ = some (.pointer (some ⟨y.og, 0, none⟩)) := fun n2 => n2.o
 have hM : ∀ (X : World) (S' : WS) (o' : Nat → Tag), TkA w c y S' K base ow tb wb t X o' → ∃ n2 : SndL tb wb y.hb y.og cs, X = n2.W := fun X S' o' hx => ⟨⟨_, by rw [hcs]; exact hx.tk, hx.wk, (hx.pw.pc .con).blk.cell 7⟩, rfl⟩
 have HCS := hide hcs
 have HM := hide hM
 have HD := hide hd
 clear hcs hM
 haveI hne : Nonempty (SndL tb wb y.hb y.og cs) := ⟨(zAa HM _ _ _ hd).choose⟩
 clear hd h
 go_upto_region 0 with fail
 refine zPl (C := fun w' => ∃ n2 : SndL tb wb y.hb y.og cs, w' = n2.W) [0, 1, 2, 3, 4, 5, 6, 7, 8, 10, 11, 12, 13] [9, 14, 15, 16, 17] 18 [] (by kernel_rfl) (by kernel_rfl) (by intro c a d v w h; cases d <;> exact h) (zAa HM _ _ _ (zAa HD)) ?_
 simp only [zAb, List.map_cons, List.map_nil, List.getD_cons_zero, List.getD_cons_succ]
 repeat (go_big_quiet_step (fail))
 refine wpQuiet_nil ?_
 simp only [wpAl]
 obtain ⟨wd, hwd⟩ : ∃ wd, wd = W.drew := ⟨_, rfl⟩
 rw [← hwd] at HPO HD
 rw [← hwd]
 have HWD := hide hwd
 clear hwd r8 rb ro
 go_wp2_with fail
 refine (zAa HPO).mono ?_
 rintro _ w2 ⟨rfl, ow2, hp2, hk2⟩
 have h2 := (zAa HD).turn hp2 hk2
 have H2 := hide h2
 have HK2 := hide hk2
 clear hp2 hk2
 clear h2
 go_wp2_with fail
 refine ⟨zAa HM _ _ _ (zAa H2), ?_⟩
 go_wp2_with fail
 refine ⟨zAa HM _ _ _ (zAa H2), ?_⟩
 have HO2 := hide (zAa H2).own.so
 have HMQ := hide (show (t.sn + 1) * 32 ≤ 140737488355328 by omega)
 have hsz := (zAa H2).kept.only.size
 go_wp2_with fail
 refine ⟨zAa HM _ _ _ ((zAa H2).calm ((Below.refl _ _).alloc (Nat.le_refl _) _)), ?_⟩
 go_wp2_with (at_builtin; (refine zAl w2 rfl (.tmp 11) (.tmp 25) _ rfl w.heap.size 111 iE _ 4 32 Tryz.underlying54 hiE hzE hsE hyE rfl (by omega) (by omega) _ t.sn _ (zAa HO2) rfl _ 1 _ rfl rfl rfl (by simp [Value.oneCell']) (zAa HMQ) hsz ?_); intro g4 cap4 w4 hg4 hown4 hbel4 hgr4 hat4)
 have k8 : w4.cell? ⟨tb, 8, none⟩ = some (.slice t.sA t.sn t.sc) := ((zAa H2).grownS hgr4).2.1.cell 8
 have f8 : w4.frozen? ⟨tb, 8, none⟩ = false := ((zAa H2).grownS hgr4).2.1.frozen 8
 have hm4 : ∃ n2 : SndL tb wb y.hb y.og cs, w4 = n2.W := ⟨⟨_, by rw [zAa HCS]; exact ((zAa H2).grownS hgr4).2.1, ((zAa H2).grownS hgr4).2.2, ((((zAa H2).grownS hgr4).1).pc .con).blk.cell 7⟩, rfl⟩
 have HM4 := hide hm4
 refine ⟨hm4, ?_⟩
 clear hm4
 go_wp2_with fail
 refine ⟨zAa HM4, ?_⟩
 obtain ⟨h5, o5⟩ := (zAa H2).send (l := [⟨S.lts.length, fr, to_, n⟩]) hgr4 hown4 hat4
 have H5 := hide h5
 have O5 := hide o5
 clear hg4 hown4 hbel4 hgr4 hat4 h5 o5
 go_wp2_with fail
 go_end0
 refine ⟨rfl, _, ow2, zAa H5, ?_, ⟨rfl, rfl, rfl⟩, ⟨rfl, rfl, rfl⟩, ?_, fun k hk => ?_⟩
 ·dsimp only; rw [zAa HL]
 ·have e1 : Only (fun k => ow1 k ≠ .no) W w2 := by have := (zAa HK2).only; rw [zAa HWD] at this; exact (Only.refl _ W).drew.trans this fun x _ h => h
  exact (e1.mono fun x _ h => Or.inl h).trans (zAa O5) fun x _ h => Or.inr h
 ·have := (zAa HK2).old k (by rw [zAa HWD]; exact hk)
  exact this
end
end
section
open Go.RowKit
structure RwI where
 v : Value
 zs : List Int
def RwI.nil : RwI := ⟨.slice none 0 0, []⟩
structure GivA (w : World) (base g : Nat) (S : List RwI) : Prop where
 blk : Blk w g 22 (S.map RwI.v).toArray
 rows : ∀ r ∈ S, w.ownsRow base 3 1 r.v r.zs.length (r.zs.map (.int .i64))
 apart : ∀ (i j : Nat) (ri rj : RwI), S[i]? = some ri → S[j]? = some rj → i ≠ j → ri.v.ownBlock = none ∨ ri.v.ownBlock ≠ rj.v.ownBlock
 low : base ≤ g
section
variable {w w' : World} {base g : Nat} {S : List RwI}
theorem GivA.only {D : Nat → Prop} (h : GivA w base g S) (ho : Only D w w') (h1 : ¬ D g) (h2 : ∀ r ∈ S, ∀ k, r.v.ownBlock = some k → ¬ D k) : GivA w' base g S :=
 ⟨h.blk.only ho h1, fun r hr => zAk (h.rows r hr) ho (h2 r hr), h.apart, h.low⟩
theorem GivA.cell (h : GivA w base g S) {i : Nat} {r : RwI} (hi : S[i]? = some r) : w.cell? ⟨g, i, none⟩ = some r.v := by
 rw [h.blk.cell i]
 simp [hi]
theorem GivA.push (h : GivA w base g S) {i : Nat} {r r' : RwI} (hi : S[i]? = some r) (hg : w.grownBy w' r.v.ownBlock) (ho : w'.ownsRow base 3 1 r'.v r'.zs.length (r'.zs.map (.int .i64))) (hat : r'.v.ownBlock = r.v.ownBlock ∨ ∃ k, r'.v.ownBlock = some k ∧ w.heap.size ≤ k) :
    GivA (w'.setCell ⟨g, i, none⟩ r'.v) base g (S.set i r') := by
 have h1 : Only (fun k => r.v.ownBlock = some k) w w' := (Only.refl _ _).grown hg (fun g hg _ => hg)
 have h2 : Only (fun k => k = g) w' (w'.setCell ⟨g, i, none⟩ r'.v) := zAg (Only.refl _ _) _ _
 have hrr := h.rows r (List.mem_of_getElem? hi)
 have hb1 := h.blk.only h1 (fun e => zAe hrr h.blk (by decide) e)
 have hother : ∀ (j : Nat) (rj : RwI), S[j]? = some rj → i ≠ j → (w'.setCell ⟨g, i, none⟩ r'.v).ownsRow base 3 1 rj.v rj.zs.length (rj.zs.map (.int .i64)) := fun j rj hj hij => by
  have hrj := h.rows rj (List.mem_of_getElem? hj)
  refine zAk (zAk hrj h1 fun k hk hd => ?_) h2 fun k hk e => ?_
  ·rcases h.apart i j r rj hi hj hij with e | e
   ·rw [e] at hd; cases hd
   ·exact e (by rw [hd, hk])
  ·exact zAe hrj h.blk (by decide) (by rw [hk, e])
 have hself : (w'.setCell ⟨g, i, none⟩ r'.v).ownsRow base 3 1 r'.v r'.zs.length (r'.zs.map (.int .i64)) := zAk ho h2 fun k hk e => zAe ho hb1 (by decide) (by rw [hk, e])
 have hil := (List.getElem?_eq_some_iff.1 hi).1
 refine ⟨?_, fun x hx => ?_, fun a b ra rb ha hb hab => ?_, h.low⟩
 ·have := hb1.set_ i r'.v
  have e : (S.map RwI.v).toArray.setIfInBounds i r'.v = ((S.set i r').map RwI.v).toArray := by
   rw [← Array.toList_inj]
   simp [List.map_set]
  rwa [e] at this
 ·obtain ⟨j, hj⟩ := List.mem_iff_getElem?.1 hx
  by_cases hij : i = j
  ·subst hij
   rw [List.getElem?_set_self hil] at hj
   cases hj
   exact hself
  ·rw [List.getElem?_set_ne hij] at hj
   exact hother j x hj hij
 ·have fresh : ∀ (j : Nat) (rj : RwI), S[j]? = some rj → i ≠ j → (r'.v.ownBlock = none ∨ r'.v.ownBlock ≠ rj.v.ownBlock) ∧ (rj.v.ownBlock = none ∨ rj.v.ownBlock ≠ r'.v.ownBlock) := fun j rj hj hij => by
   rcases hat with e | ⟨k, hk, hkl⟩
   ·rw [e]
    exact ⟨h.apart i j r rj hi hj hij, h.apart j i rj r hj hi (fun e => hij e.symm)⟩
   ·have hlt := (h.rows rj (List.mem_of_getElem? hj)).lt
    refine ⟨.inr fun e => ?_, ?_⟩
    ·rw [hk] at e
     have := (hlt k e.symm).2
     omega
    ·right
     intro e
     rw [hk] at e
     have := (hlt k e).2
     omega
  by_cases hai : i = a
  ·subst hai
   rw [List.getElem?_set_self hil] at ha
   cases ha
   rw [List.getElem?_set_ne hab] at hb
   exact (fresh b rb hb hab).1
  ·rw [List.getElem?_set_ne hai] at ha
   by_cases hbi : i = b
   ·subst hbi
    rw [List.getElem?_set_self hil] at hb
    cases hb
    exact (fresh a ra ha hai).2
   ·rw [List.getElem?_set_ne hbi] at hb
    exact h.apart a b ra rb ha hb hab
end
theorem GivA.new {w : World} {base g n : Nat} (h : Blk w g 22 (zBc n)) (hb : base ≤ g) : GivA w base g (List.replicate n RwI.nil) := by
 have key : ∀ (i : Nat) (r : RwI), (List.replicate n RwI.nil)[i]? = some r → r = RwI.nil := fun i r hr => (List.mem_replicate.1 (List.mem_of_getElem? hr)).2
 refine ⟨?_, fun r hr => ?_, fun i j ri rj hi hj hij => .inl ?_, hb⟩
 ·rw [List.map_replicate]
  exact h
 ·rw [(List.mem_replicate.1 hr).2]
  exact World.ownsRow_nil _ _ _ _
 ·rw [key i ri hi]
  rfl
def Gap (L : List RwI) (v : Value) : Prop := ∀ r ∈ L, ∀ k, r.v.ownBlock = some k → v.ownBlock ≠ some k
theorem Gap.set_ {L : List RwI} {v : Value} (h : Gap L v) {i : Nat} {r r' : RwI} {B : Nat} (hi : L[i]? = some r) (hat : r'.v.ownBlock = r.v.ownBlock ∨ ∃ k, r'.v.ownBlock = some k ∧ B ≤ k) (hv : ∀ k, v.ownBlock = some k → k < B) : Gap (L.set i r') v := fun x hx k hk e => by
 rcases List.mem_or_eq_of_mem_set hx with hx | rfl
 ·exact h x hx k hk e
 ·rcases hat with e2 | ⟨k2, e2, hk2⟩
  ·exact h r (List.mem_of_getElem? hi) k (by rw [← e2]; exact hk) e
  ·rw [hk] at e2
   cases e2
   have := hv k e
   omega
theorem Gap.of_lt {L : List RwI} {v : Value} {w : World} {base g B : Nat} (h : GivA w base g L) (hB : w.heap.size ≤ B) (hv : ∀ k, v.ownBlock = some k → B ≤ k) : Gap L v := fun r hr k hk e => by
 have := ((h.rows r hr).lt k hk).2
 have := hv k e
 omega
theorem Gap.to_ {L : List RwI} {v v' : Value} {w : World} {base g B : Nat} (h : Gap L v) (hL : GivA w base g L) (hB : w.heap.size ≤ B) (hv : ∀ k, v'.ownBlock = some k → v.ownBlock = some k ∨ B ≤ k) : Gap L v' := fun r hr k hk e => by
 rcases hv k e with h2 | h2
 ·exact h r hr k hk h2
 ·have := ((hL.rows r hr).lt k hk).2
  omega
section
variable {w W W' : World} {c : Cfg} {y : Lay} {S S' : WS} {K base : Nat} {ow : Nat → Tag}
theorem ShRow.congr {g m : Nat} {f f' : Nat → Shf} {own : Nat → Prop} (h : ShRow w base g m f own) (hf : ∀ k, k < m → f' k = f k) : ShRow w base g m f' own := by
 obtain ⟨⟨cs, vs, h1, h2⟩, o⟩ := h
 exact ⟨⟨cs, vs, fun k hk => by rw [hf k hk]; exact h1 k hk, h2⟩, o⟩
theorem PW.congrSh (h : PW w c y S K base ow) (sh' : Nat → Nat → Shf) (hs : ∀ i k, i < c.n → k < c.m → sh' i k = S.sh i k) : PW w c y { S with sh := sh' } K base ow := by
 refine ⟨fun t => ?_, h.low, h.fresh, h.cfg, h.may, h.bw⟩
 have := h.pc t
 cases t with
 | sh i => exact fun hi => (this hi).congr (hs i · hi)
 | _ => exact this
theorem PW.aged (h : PW w c y (S.tkTo c.m c.n 0) K base ow) : PW w c y S.aged K base ow :=
 h.congrSh (fun i k => ((S.sh i k).does zHo).1) fun i k hi hk => (if_pos (Or.inl ⟨hi, hk⟩)).symm
end
end
section
open Go.RowKit
def treeF : OT := (.fork (.next 8 (.fork (.next 9 (.fork (.next 10 (.fork (.next 11 (.next 12 (.next 13 (.next 14 .done)))) (.next 12 (.fork (.next 11 (.next 13 (.next 14 .done))) (.next 13 (.next 11 (.next 14 .done))))))) (.fork (.next 11 (.fork (.next 10 (.next 12 (.next 13 (.next 14 .done)))) (.next 12 (.next 10 (.next 13 (.next 14 .done)))))) (.next 12 (.fork (.next 10 (.fork (.next 11 (.next 13 (.next 14 .done))) (.next 13 (.next 11 (.next 14 .done))))) (.next 11 (.next 10 (.next 13 (.next 14 .done))))))))) (.next 12 (.next 9 (.fork (.next 10 (.fork (.next 11 (.next 13 (.next 14 .done))) (.next 13 (.next 11 (.next 14 .done))))) (.next 11 (.next 10 (.next 13 (.next 14 .done))))))))) (.next 12 (.next 8 (.next 9 (.fork (.next 10 (.fork (.next 11 (.next 13 (.next 14 .done))) (.next 13 (.next 11 (.next 14 .done))))) (.next 11 (.next 10 (.next 13 (.next 14 .done)))))))))
section
variable {w : World} {c : Cfg} {y : Lay} {S : WS} {K base : Nat} {ow : Nat → Tag}
set_option maxRecDepth 100000 in
set_option maxHeartbeats 4000000 in
theorem yAh (h : PW w c y S K base ow) (N : Nat) (hS : S.ok c N) (s : StpI) (i : Nat) (hi : i < c.n) (hw : s.who = i) (hb : ¬ zJr c s) :
    Calls Tryz.prog 92 #[.pointer (some ⟨y.hb, 0, none⟩), .pointer (some ⟨(y.br i).b, 0, none⟩), s.val] w (zBo w c y K base ow (zFz (zBu c S s i).1, (zBu c S s i).2)) := by
 obtain ⟨kind, who, item, count, life, id, label, key⟩ := s
 dsimp only at hw
 unfold zJr at hb
 dsimp only at hb
 subst hw
 unfold StpI.val
 dsimp only
 obtain ⟨p, hp⟩ : ∃ p, p = w.heap.size := ⟨_, rfl⟩
 obtain ⟨q, hq⟩ : ∃ q, q = w.heap.size + 1 := ⟨_, rfl⟩
 obtain ⟨wx, hwx⟩ : ∃ wx, wx = (w.alloc (.cells #[.int .i64 kind, .int .i64 (i : Int), .int .i64 item, .int .i64 count, .int .i64 life, .int .i64 id, .int .i64 label, .int .i64 key] 48)).alloc (.cells (tol0 0 0).cells.toArray 57) := ⟨_, rfl⟩
 have hbx : Below w.heap.size w wx := by rw [hwx]; exact ((Below.refl _ _).alloc (Nat.le_refl _) _).alloc (by simp) _
 have kp : Blk wx p 48 #[.int .i64 kind, .int .i64 (i : Int), .int .i64 item, .int .i64 count, .int .i64 life, .int .i64 id, .int .i64 label, .int .i64 key] := by rw [hwx, hp]; exact (Blk.new w _ _).alloc _
 have kq : Blk wx q 57 (tol0 0 0).cells.toArray := by
  have h1 := Blk.new (w.alloc (.cells #[.int .i64 kind, .int .i64 (i : Int), .int .i64 item, .int .i64 count, .int .i64 life, .int .i64 id, .int .i64 label, .int .i64 key] 48)) 57 (tol0 0 0).cells.toArray
  rw [hwx, hq]
  simpa using h1
 have hx := h.calm hbx
 have HNO := hide (fun e W => zCi e W)
 unfold tol0 zAy Tol.val Stk.none at HNO
 dsimp only at HNO
 have c1 : wx.cell? ⟨y.hb, 1, none⟩ = some (.slice c.la.A c.la.n c.la.c) := (hx.pc .con).blk.cell 1
 have hln : c.la.n = c.ln := hx.cfg.1.1.symm
 rw [hln] at c1
 have s1 : wx.cell? ⟨p, 1, none⟩ = some (.int .i64 (i : Int)) := kp.cell 1
 have s0 : wx.cell? ⟨p, 0, none⟩ = some (.int .i64 kind) := kp.cell 0
 have s3 : wx.cell? ⟨p, 3, none⟩ = some (.int .i64 count) := kp.cell 3
 have s6 : wx.cell? ⟨p, 6, none⟩ = some (.int .i64 label) := kp.cell 6
 have s7 : wx.cell? ⟨p, 7, none⟩ = some (.int .i64 key) := kp.cell 7
 have HX := hide hx
 have HKQ := hide kq
 have HBX := hide hbx
 have HP := hide hp
 have HQ := hide hq
 have HH := hide h
 have HWX := hide hwx
 clear hx kp kq hbx hp hq h hwx hln
 obtain ⟨l, hl⟩ : ∃ l : Nat, label = l := ⟨label.toNat, by omega⟩
 subst hl
 have hll : l < c.ln := by omega
 obtain ⟨bl, ol, z, hA, _, hz, hcz⟩ := zDd (zAa HX).cfg.1.2.2.2 (show l < c.la.n by rw [← (zAa HX).cfg.1.1]; exact hll)
 obtain ⟨⟨hn, hn1, hn8⟩, _, _, _, _, hzs, _⟩ := zAj (zAa HX).may
 have hzb := hzs z (List.mem_of_getElem? hz)
 have hz255 : z.toNat ≤ 255 := by
  have h1 : (2 : Int) ^ c.n ≤ 2 ^ 8 := by exact_mod_cast Nat.pow_le_pow_right (by omega) hn8
  have h2 := hzb.2
  omega
 obtain ⟨v, hv⟩ : ∃ v : Nat, v = z.toNat := ⟨_, rfl⟩
 have hzv : z = (v : Int) := by omega
 rw [hzv] at hcz hz
 have HZ := hide hz
 have HIN := hide (fun W => yCs v i W (by omega) (by omega))
 rw [hA] at c1
 have hlt : (l : Int) < (c.ln : Int) := by omega
 have HBC := hide hb
 have hgz : (c.la.zs.getD ((l : Int)).toNat 0).toNat = v := by rw [Int.toNat_natCast, List.getD_eq_getElem?_getD, hz]; simp
 have hEV : zBu c S ⟨kind, i, item, count, life, id, l, key⟩ i = (if v.testBit i = false then (zAy 11 i, S) else if kind = 7 then (zAy 0 i, { S with st := upd1 S.st i ((S.st i).set l (putE ((S.st i).getD l []) i key count false)) }) else if (zEr ((S.st i).getD l []) key).2 = false then (zAy 6 i, S) else (⟨0, i, Stk.none, (zEr ((S.st i).getD l []) key).1.value, [], [], []⟩, S)) := by
  unfold zBu
  dsimp only
  rw [if_neg hb, hgz, Int.toNat_natCast]
 have HE := hide hEV
 have hst := hS.st i
 have hbr := (zAa HX).pc .con |>.brs i hi
 have d3 : wx.cell? ⟨(y.br i).b, 3, none⟩ = some (.slice (some ⟨(y.br i).t, 0, none⟩) c.ln c.ln) := hbr.cell 3
 have HPUT := hide (fun W (hW : Below wx.heap.size wx W) => zTk (ow := ow) ((zAa HX).calm hW) i l hi hll hst i key count false)
 have HFND := hide (fun W (hW : Below wx.heap.size wx W) => zRf (ow := ow) ((zAa HX).calm hW) i l hi hll hst.1 key)
 have T1 := hide c1
 have T2 := hide hcz
 have T3 := hide d3
 have T4 := hide s0
 have T5 := hide s1
 have T6 := hide s3
 have T7 := hide s6
 have T8 := hide s7
 have hg1 : decide ((l : Int) < 0) = false := by simp
 have hg2 : decide ((c.ln : Int) ≤ (l : Int)) = false := by simpa using hll
 have hg5 : decide (c.ln ≤ l) = false := by simpa using hll
 have hg3 : decide (key < 0) = false := by simp; omega
 have hg4 : decide (8 ≤ key) = false := by simp; omega
 clear hA hz hzb hz255 hv hzs hn hn1 hn8 hgz hEV hst hbr d3 hcz hb
 go_enter Tryz.func92, Tryz.ntmps92
 go_upto_region 1 with fail
 rw [show (#[.int .i64 0, .int .i64 0, .int .i64 0, .int .i64 0, .int .i64 0, .int .i64 0, .int .i64 0, .int .i64 0, .slice none 0 0, .slice none 0 0, .slice none 0 0] : Array Value) = (tol0 0 0).cells.toArray from rfl, ← zAa HWX, ← zAa HQ, ← zAa HP]
 have hd : ((kind == 7) = true ∧ decide (count < 0) = false ∧ decide (255 < count) = false) ∨ (kind == 7) = false := by
  have := zAa HBC
  simp only [decide_eq_false_iff_not, beq_iff_eq, beq_eq_false_iff_ne]
  omega
 rcases hd with ⟨a5, a6, a7⟩ | a5
 ·go_quiet (fail)
  have HW := hide (below_drewN (Below.refl wx.heap.size wx) nq)
  have HK2 := hide ((zAa HKQ).drewN nq)
  generalize wx.drewN nq = w2 at HW HK2 ⊢
  clear c1 s0 s1 s3 s6 s7
  have t1 := fun n : Ext w2 => Ext.cell (w := wx) ⟨n.W, (zAa HW).trans (n.h.mono (zAa HW).size)⟩ (zAa T1)
  have t2 := fun n : Ext w2 => Ext.cell (w := wx) ⟨n.W, (zAa HW).trans (n.h.mono (zAa HW).size)⟩ (zAa T2)
  have t5 := fun n : Ext w2 => Ext.cell (w := wx) ⟨n.W, (zAa HW).trans (n.h.mono (zAa HW).size)⟩ (zAa T5)
  have t7 := fun n : Ext w2 => Ext.cell (w := wx) ⟨n.W, (zAa HW).trans (n.h.mono (zAa HW).size)⟩ (zAa T7)
  go_upto_region 3 with fail
  have HIN2 := hide (fun n : Ext w2 => (zAa HIN n.W).mono (fun e w' (h : e = .returned (.bool (v.testBit i)) ∧ n.W = w') => And.intro h.1 (show Below n.W.heap.size n.W w' by rw [← h.2]; exact Below.refl _ _)))
  generalize v.testBit i = M at HIN2 HE
  refine zCr (by kernel_rfl) (by kernel_rfl) ?_
  repeat (go_big_quiet_step ((go_at_call 54; exact zDi (zAa HIN2 _))))
  refine wpQuiet_nil ?_
  rintro _ ⟨nq2, rfl⟩
  have HW5 := hide ((zAa HW).trans (nq2.h.mono (zAa HW).size))
  have HK5 := hide ((zAa HK2).below nq2.h (zAa HK2).lt)
  generalize nq2.W = w5 at HW5 HK5 ⊢
  clear t1 t2 t5 t7 HIN2
  have r0 := Ext.cell (w := wx) ⟨w5, zAa HW5⟩ (zAa T4)
  have r1 := Ext.cell (w := wx) ⟨w5, zAa HW5⟩ (zAa T5)
  have r3 := Ext.cell (w := wx) ⟨w5, zAa HW5⟩ (zAa T6)
  have r6 := Ext.cell (w := wx) ⟨w5, zAa HW5⟩ (zAa T7)
  have r7 := Ext.cell (w := wx) ⟨w5, zAa HW5⟩ (zAa T8)
  have rd := Ext.cell (w := wx) ⟨w5, zAa HW5⟩ (zAa T3)
  cases M with
  | false =>
   have HF := hide (show zBu c S ⟨kind, i, item, count, life, id, l, key⟩ i = (zAy 11 i, S) from (zAa HE).trans (if_pos rfl))
   clear r0 r1 r3 r6 r7 rd
   go_wp2_with fail
   refine (zAa HNO 11 w5).mono ?_
   rintro _ w6 ⟨rfl, hb6⟩
   have HK6 := hide ((zAa HK5).below hb6 (zAa HK5).lt)
   have HB6 := hide ((zAa HW5).trans (hb6.mono (zAa HW5).size))
   clear hb6
   obtain ⟨g0, g1, g2, g3, g4, g5, g6, g7, g8, g9, g10⟩ := zBl (zAa HK6)
   obtain ⟨f0, f1, f2, f3, f4, f5, f6, f7, f8, f9, f10⟩ := zBi (zAa HK6)
   go_wp2_with fail
   change bodyPost _ _ _ _ _ (wrT w6 q (tol0 11 0))
   have k9 := zCc (zAa HK6) rfl (tol0 11 0)
   have HO9 := hide (zBk w6 q (tol0 11 0))
   clear g0 g1 g2 g3 g4 g5 g6 g7 g8 g9 g10 f0 f1 f2 f3 f4 f5 f6 f7 f8 f9 f10
   generalize wrT w6 q (tol0 11 0) = w9 at k9 HO9 ⊢
   obtain ⟨d0, d1, d2, d3, d4, d5, d6, d7, d8, d9, d10⟩ := zAt k9
   refine bodyPost_ret (v := ((tol0 11 0)).val) (by simp [results, Tryz.results92, go_sem, d0, d1, d2, d3, d4, d5, d6, d7, d8, d9, d10, Tol.val]) rfl (zDf 11 (zAa HF) (Turned.nobody (zAa HH) ((zAa HBX).trans ((zAa HB6).mono (zAa HBX).size)) (zAa HO9) (by rw [zAa HQ]; omega)))
  | true =>
   have HF := hide (show zBu c S ⟨kind, i, item, count, life, id, l, key⟩ i = (zAy 0 i, { S with st := upd1 S.st i ((S.st i).set l (putE ((S.st i).getD l []) i key count false)) }) from (zAa HE).trans (by rw [if_neg (by simp), if_pos (by simpa using a5)]))
   go_upto_region 6 with fail
   have u0 := fun n : Ext w5 => n.cell r0
   have u1 := fun n : Ext w5 => n.cell r1
   have u3 := fun n : Ext w5 => n.cell r3
   have u6 := fun n : Ext w5 => n.cell r6
   have u7 := fun n : Ext w5 => n.cell r7
   have ud := fun n : Ext w5 => n.cell rd
   clear r0 r1 r3 r6 r7 rd
   refine zCy 12 (by kernel_rfl) (by kernel_rfl) ?_
   simp only [List.take_succ_cons, List.take_zero, List.drop_succ_cons, List.drop_zero]
   repeat (go_big_quiet_step (fail))
   refine wpQuiet_nil ?_
   rintro _ ⟨nq3, rfl⟩
   have HW6 := hide ((zAa HW5).trans (nq3.h.mono (zAa HW5).size))
   have HK6 := hide ((zAa HK5).below nq3.h (zAa HK5).lt)
   generalize nq3.W = w6 at HW6 HK6 ⊢
   clear u0 u1 u3 u6 u7 ud
   go_wp2_with fail
   refine (zAa HPUT w6 (zAa HW6)).mono ?_
   rintro _ w7 ⟨rfl, ow7, hp7, hk7⟩
   have hq7 : Blk w7 q 57 (tol0 0 0).cells.toArray := hk7.blk (zAa HK6) ((zAa HH).fresh q (by rw [zAa HQ]; omega))
   have HK7 := hide hq7
   have HP7 := hide hp7
   have HKK := hide ((Kept.calm ((zAa HBX).trans ((zAa HW6).mono (zAa HBX).size))).trans hk7)
   have HN7 := hide (show ow7 q = .no from (hk7.old q (zAa HK6).lt).trans ((zAa HH).fresh q (by rw [zAa HQ]; omega)))
   clear hq7 hp7 hk7
   obtain ⟨g0, g1, g2, g3, g4, g5, g6, g7, g8, g9, g10⟩ := zBl (zAa HK7)
   obtain ⟨f0, f1, f2, f3, f4, f5, f6, f7, f8, f9, f10⟩ := zBi (zAa HK7)
   go_wp2_with fail
   change bodyPost _ _ _ _ _ (wrT w7 q (tol0 0 0))
   have k9 := zCc (zAa HK7) rfl (tol0 0 0)
   have HO9 := hide (zBk w7 q (tol0 0 0))
   clear g0 g1 g2 g3 g4 g5 g6 g7 g8 g9 g10 f0 f1 f2 f3 f4 f5 f6 f7 f8 f9 f10
   generalize wrT w7 q (tol0 0 0) = w9 at k9 HO9 ⊢
   obtain ⟨d0, d1, d2, d3, d4, d5, d6, d7, d8, d9, d10⟩ := zAt k9
   refine bodyPost_ret (v := ((tol0 0 0)).val) (by simp [results, Tryz.results92, go_sem, d0, d1, d2, d3, d4, d5, d6, d7, d8, d9, d10, Tol.val]) rfl (zDf 0 (zAa HF) (Turned.mk_ (zAa HP7) (zAa HKK) (zAa HO9) (by rw [zAa HQ]; omega) (zAa HN7) (zAa HH).bw))
 ·go_quiet (fail)
  have HW := hide (below_drewN (Below.refl wx.heap.size wx) nq)
  have HK2 := hide ((zAa HKQ).drewN nq)
  generalize wx.drewN nq = w2 at HW HK2 ⊢
  clear c1 s0 s1 s3 s6 s7
  have t1 := fun n : Ext w2 => Ext.cell (w := wx) ⟨n.W, (zAa HW).trans (n.h.mono (zAa HW).size)⟩ (zAa T1)
  have t2 := fun n : Ext w2 => Ext.cell (w := wx) ⟨n.W, (zAa HW).trans (n.h.mono (zAa HW).size)⟩ (zAa T2)
  have t5 := fun n : Ext w2 => Ext.cell (w := wx) ⟨n.W, (zAa HW).trans (n.h.mono (zAa HW).size)⟩ (zAa T5)
  have t7 := fun n : Ext w2 => Ext.cell (w := wx) ⟨n.W, (zAa HW).trans (n.h.mono (zAa HW).size)⟩ (zAa T7)
  go_upto_region 3 with fail
  have HIN2 := hide (fun n : Ext w2 => (zAa HIN n.W).mono (fun e w' (h : e = .returned (.bool (v.testBit i)) ∧ n.W = w') => And.intro h.1 (show Below n.W.heap.size n.W w' by rw [← h.2]; exact Below.refl _ _)))
  generalize v.testBit i = M at HIN2 HE
  refine zCr (by kernel_rfl) (by kernel_rfl) ?_
  repeat (go_big_quiet_step ((go_at_call 54; exact zDi (zAa HIN2 _))))
  refine wpQuiet_nil ?_
  rintro _ ⟨nq2, rfl⟩
  have HW5 := hide ((zAa HW).trans (nq2.h.mono (zAa HW).size))
  have HK5 := hide ((zAa HK2).below nq2.h (zAa HK2).lt)
  generalize nq2.W = w5 at HW5 HK5 ⊢
  clear t1 t2 t5 t7 HIN2
  have r0 := Ext.cell (w := wx) ⟨w5, zAa HW5⟩ (zAa T4)
  have r1 := Ext.cell (w := wx) ⟨w5, zAa HW5⟩ (zAa T5)
  have r3 := Ext.cell (w := wx) ⟨w5, zAa HW5⟩ (zAa T6)
  have r6 := Ext.cell (w := wx) ⟨w5, zAa HW5⟩ (zAa T7)
  have r7 := Ext.cell (w := wx) ⟨w5, zAa HW5⟩ (zAa T8)
  have rd := Ext.cell (w := wx) ⟨w5, zAa HW5⟩ (zAa T3)
  cases M with
  | false =>
   have HF := hide (show zBu c S ⟨kind, i, item, count, life, id, l, key⟩ i = (zAy 11 i, S) from (zAa HE).trans (if_pos rfl))
   clear r0 r1 r3 r6 r7 rd
   go_wp2_with fail
   refine (zAa HNO 11 w5).mono ?_
   rintro _ w6 ⟨rfl, hb6⟩
   have HK6 := hide ((zAa HK5).below hb6 (zAa HK5).lt)
   have HB6 := hide ((zAa HW5).trans (hb6.mono (zAa HW5).size))
   clear hb6
   obtain ⟨g0, g1, g2, g3, g4, g5, g6, g7, g8, g9, g10⟩ := zBl (zAa HK6)
   obtain ⟨f0, f1, f2, f3, f4, f5, f6, f7, f8, f9, f10⟩ := zBi (zAa HK6)
   go_wp2_with fail
   change bodyPost _ _ _ _ _ (wrT w6 q (tol0 11 0))
   have k9 := zCc (zAa HK6) rfl (tol0 11 0)
   have HO9 := hide (zBk w6 q (tol0 11 0))
   clear g0 g1 g2 g3 g4 g5 g6 g7 g8 g9 g10 f0 f1 f2 f3 f4 f5 f6 f7 f8 f9 f10
   generalize wrT w6 q (tol0 11 0) = w9 at k9 HO9 ⊢
   obtain ⟨d0, d1, d2, d3, d4, d5, d6, d7, d8, d9, d10⟩ := zAt k9
   refine bodyPost_ret (v := ((tol0 11 0)).val) (by simp [results, Tryz.results92, go_sem, d0, d1, d2, d3, d4, d5, d6, d7, d8, d9, d10, Tol.val]) rfl (zDf 11 (zAa HF) (Turned.nobody (zAa HH) ((zAa HBX).trans ((zAa HB6).mono (zAa HBX).size)) (zAa HO9) (by rw [zAa HQ]; omega)))
  | true =>
   have HF := hide ((zAa HE).trans (by rw [if_neg (by simp), if_neg (show ¬ kind = 7 by simpa using a5)]))
   clear HPUT
   generalize (zEr ((S.st i).getD l []) key) = fr at HFND HF
   obtain ⟨E, V⟩ := fr
   obtain ⟨ek, ev, et, ew, eg⟩ := E
   unfold entV at HFND
   dsimp only at HFND HF
   go_upto_region 8 with fail
   have HFN := hide (fun n : Ext w5 => zAa HFND n.W ((zAa HW5).trans (n.h.mono (zAa HW5).size)))
   have u6 := fun n : Ext w5 => n.cell r6
   have u7 := fun n : Ext w5 => n.cell r7
   have ud := fun n : Ext w5 => n.cell rd
   clear r0 r1 r3 r6 r7 rd
   go_cut [7, 8] (fun s7 s8 W => ∃ b, s7 = .pointer (some ⟨b, 0, none⟩) ∧ s8 = .bool V ∧ Hid (Blk W b 125 #[.int .i64 ek, .int .i64 ev, .int .i64 et, .int .i64 ew, .bool eg] ∧ Below w5.heap.size w5 W))
   case first =>
    refine zBt [0, 1, 2, 3, 4, 5, 6, 7] [8, 9, 10, 11, 12, 13, 14] treeF (by kernel_rfl) (by kernel_rfl) (by intro c a d v w h; cases d <;> exact h) ?_
    simp only [zAb, List.map_cons, List.map_nil, List.getD_cons_zero, List.getD_cons_succ]
    repeat (go_big_quiet_step (fail))
    refine wpQuiet_nil ?_
    clear u6 u7 ud
    have hd0 : Below w5.heap.size w5 w5.drew := (Below.refl _ w5).drew
    generalize w5.drew = wc at hd0 ⊢
    unfold treeF
    repeat' (first
     | (refine zAm ?_ ?_)
     | (refine zBg ?_; go_wp2_with (fail); go_meet; exact ⟨_, rfl, rfl, hide ⟨kb, hd0⟩⟩)
     | (refine zAc fun K0 hK0 => ?_; simp only [zAb, List.map_cons, List.map_nil, List.getD_cons_zero, List.getD_cons_succ]; go_wp2_with (fail); refine hK0 _ wc (fun _ => ⟨⟨_, hd0⟩, rfl⟩) ?_; clear hK0 K0)
     | (refine zAc fun K0 hK0 => ?_; simp only [zAb, List.map_cons, List.map_nil, List.getD_cons_zero, List.getD_cons_succ]; go_wp2_with (fail); refine (zAa HFN ⟨_, hd0⟩).mono ?_; rintro _ wc ⟨rfl, hb7⟩; (try (have kb := kb.below hb7 kb.lt)); have hd0 := hd0.trans (hb7.mono hd0.size); clear hb7; go_wp2_with (fail); refine hK0 _ wc (fun _ => ⟨⟨_, hd0⟩, rfl⟩) ?_; clear hK0 K0)
     | (refine zAc fun K0 hK0 => ?_; simp only [zAb, List.map_cons, List.map_nil, List.getD_cons_zero, List.getD_cons_succ]; go_wp2_with (fail); refine hK0 _ (wc.alloc (.cells #[.int .i64 0, .int .i64 0, .int .i64 0, .int .i64 0, .bool false] 125)) (fun _ => ⟨⟨_, hd0.alloc hd0.size _⟩, rfl⟩) ?_; clear hK0 K0; have kb := Blk.new wc 125 #[.int .i64 0, .int .i64 0, .int .i64 0, .int .i64 0, .bool false]; have hd1 := hd0.alloc hd0.size (.cells #[.int .i64 0, .int .i64 0, .int .i64 0, .int .i64 0, .bool false] 125); have hbb := hd0.size; clear hd0; generalize wc.heap.size = bb at kb hbb ⊢; generalize wc.alloc (.cells #[.int .i64 0, .int .i64 0, .int .i64 0, .int .i64 0, .bool false] 125) = wc at kb hd1 ⊢; have hd0 := hd1; clear hd1)
     | (have q0 : wc.cell? ⟨bb, 0, none⟩ = some (.int .i64 0) := kb.cell 0
        have q1 : wc.cell? ⟨bb, 1, none⟩ = some (.int .i64 0) := kb.cell 1
        have q2 : wc.cell? ⟨bb, 2, none⟩ = some (.int .i64 0) := kb.cell 2
        have q3 : wc.cell? ⟨bb, 3, none⟩ = some (.int .i64 0) := kb.cell 3
        have q4 : wc.cell? ⟨bb, 4, none⟩ = some (.bool false) := kb.cell 4
        have f0 := kb.frozen 0
        have f1 := kb.frozen 1
        have f2 := kb.frozen 2
        have f3 := kb.frozen 3
        have f4 := kb.frozen 4
        refine zAc fun K0 hK0 => ?_
        simp only [zAb, List.map_cons, List.map_nil, List.getD_cons_zero, List.getD_cons_succ]
        go_wp2_with (fail)
        have kb := zQy kb rfl (.int .i64 ek) (.int .i64 ev) (.int .i64 et) (.int .i64 ew) (.bool eg)
        have hd1 := Below.only hd0 (zPg wc bb (.int .i64 ek) (.int .i64 ev) (.int .i64 et) (.int .i64 ew) (.bool eg)) (fun x hx e => by omega) hd0.size
        refine hK0 _ (ent5 wc bb (.int .i64 ek) (.int .i64 ev) (.int .i64 et) (.int .i64 ew) (.bool eg)) (fun _ => ⟨⟨_, hd1⟩, rfl⟩) ?_
        clear hK0 K0 q0 q1 q2 q3 q4 f0 f1 f2 f3 f4 hd0
        generalize ent5 wc bb (.int .i64 ek) (.int .i64 ev) (.int .i64 et) (.int .i64 ew) (.bool eg) = wc at kb hd1 ⊢
        have hd0 := hd1
        clear hd1))
   case rest =>
    obtain ⟨be, rfl, rfl, HKE⟩ := hcut
    have HKC := hide ((zAa HK5).below (zAa HKE).2 (zAa HK5).lt)
    have HWC := hide ((zAa HW5).trans ((zAa HKE).2.mono (zAa HW5).size))
    have v1 : wc.cell? ⟨be, 1, none⟩ = some (.int .i64 ev) := (zAa HKE).1.cell 1
    cases V with
    | false =>
     have HG := hide ((zAa HF).trans (if_pos rfl))
     clear v1
     go_wp2_with fail
     refine (zAa HNO 6 wc).mono ?_
     rintro _ w6 ⟨rfl, hb6⟩
     have HK6 := hide ((zAa HKC).below hb6 (zAa HKC).lt)
     have HB6 := hide ((zAa HWC).trans (hb6.mono (zAa HWC).size))
     clear hb6
     obtain ⟨g0, g1, g2, g3, g4, g5, g6, g7, g8, g9, g10⟩ := zBl (zAa HK6)
     obtain ⟨f0, f1, f2, f3, f4, f5, f6, f7, f8, f9, f10⟩ := zBi (zAa HK6)
     go_wp2_with fail
     change bodyPost _ _ _ _ _ (wrT w6 q (tol0 6 0))
     have k9 := zCc (zAa HK6) rfl (tol0 6 0)
     have HO9 := hide (zBk w6 q (tol0 6 0))
     clear g0 g1 g2 g3 g4 g5 g6 g7 g8 g9 g10 f0 f1 f2 f3 f4 f5 f6 f7 f8 f9 f10
     generalize wrT w6 q (tol0 6 0) = w9 at k9 HO9 ⊢
     obtain ⟨d0, d1, d2, d3, d4, d5, d6, d7, d8, d9, d10⟩ := zAt k9
     refine bodyPost_ret (v := ((tol0 6 0)).val) (by simp [results, Tryz.results92, go_sem, d0, d1, d2, d3, d4, d5, d6, d7, d8, d9, d10, Tol.val]) rfl (zDf 6 (zAa HG) (Turned.nobody (zAa HH) ((zAa HBX).trans ((zAa HB6).mono (zAa HBX).size)) (zAa HO9) (by rw [zAa HQ]; omega)))
    | true =>
     have HG := hide ((zAa HF).trans (if_neg (by simp)))
     obtain ⟨g0, g1, g2, g3, g4, g5, g6, g7, g8, g9, g10⟩ := zBl (zAa HKC)
     obtain ⟨f0, f1, f2, f3, f4, f5, f6, f7, f8, f9, f10⟩ := zBi (zAa HKC)
     go_wp2_with fail
     change bodyPost _ _ _ _ _ (wrT wc q (⟨⟨0, 0, Stk.none, ev, [], [], []⟩, none, 0, 0, none, 0, 0, none, 0, 0⟩ : Tol))
     have k9 := zCc (zAa HKC) rfl (⟨⟨0, 0, Stk.none, ev, [], [], []⟩, none, 0, 0, none, 0, 0, none, 0, 0⟩ : Tol)
     have HO9 := hide (zBk wc q (⟨⟨0, 0, Stk.none, ev, [], [], []⟩, none, 0, 0, none, 0, 0, none, 0, 0⟩ : Tol))
     clear g0 g1 g2 g3 g4 g5 g6 g7 g8 g9 g10 f0 f1 f2 f3 f4 f5 f6 f7 f8 f9 f10
     generalize wrT wc q (⟨⟨0, 0, Stk.none, ev, [], [], []⟩, none, 0, 0, none, 0, 0, none, 0, 0⟩ : Tol) = w9 at k9 HO9 ⊢
     obtain ⟨d0, d1, d2, d3, d4, d5, d6, d7, d8, d9, d10⟩ := zAt k9
     refine bodyPost_ret (v := ((⟨⟨0, 0, Stk.none, ev, [], [], []⟩, none, 0, 0, none, 0, 0, none, 0, 0⟩ : Tol)).val) (by simp [results, Tryz.results92, go_sem, d0, d1, d2, d3, d4, d5, d6, d7, d8, d9, d10, Tol.val]) rfl (⟨(⟨⟨0, 0, Stk.none, ev, [], [], []⟩, none, 0, 0, none, 0, 0, none, 0, 0⟩ : Tol), rfl, by rw [zAa HG]; rfl, ⟨World.ownsRow_nil _ _ _ _, World.ownsRow_nil _ _ _ _, World.ownsRow_nil _ _ _ _⟩, by rw [zAa HG]; obtain ⟨o1, h1, h2⟩ := Turned.nobody (zAa HH) ((zAa HBX).trans ((zAa HWC).mono (zAa HBX).size)) (zAa HO9) (by rw [zAa HQ]; omega); exact ⟨o1, h1, h2, fun v hv k hk => by rcases hv with rfl | rfl | rfl <;> cases hk⟩⟩)
theorem yDu (h : PW w c y S K base ow) (N : Nat) (hS : S.ok c N) (s : StpI) (i : Nat) (hi : i < c.n) (hw : s.who = i) :
    Calls Tryz.prog 92 #[.pointer (some ⟨y.hb, 0, none⟩), .pointer (some ⟨(y.br i).b, 0, none⟩), s.val] w (zBo w c y K base ow (zFz (zBu c S s i).1, (zBu c S s i).2)) := by
 by_cases hb : zJr c s
 ·exact yDk h s i hi hb
 ·exact yAh h N hS s i hi hw hb
end
end
end Go.Proofs.YtbolcebmbpepdaaGreatDoor
