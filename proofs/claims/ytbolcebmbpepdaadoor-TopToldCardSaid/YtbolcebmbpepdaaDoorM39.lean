/- Contracts and plain facts, set together by program out of smaller texts. Conditions: none beyond what each theorem states. -/
import Derived.Test.YtbolcebmbpepdaaDoorM34
import Derived.Test.YtbolcebmbpepdaaDoorM38
import Derived.Test.YtbolcebmbpepdaaDoorM05
import Derived.Test.YtbolcebmbpepdaaDoorM02
namespace Go.Proofs.YtbolcebmbpepdaaDoor
set_option linter.unusedVariables false
section
open Go.RowKit
section
variable {P : Program} {Q : Exit → Act → World → Prop} {C : World → Prop}
/-- loads that read alike in every world that meets C, then operations in one order, each of which leaves a world that meets C, then the last ones -/
theorem wp_region_weakF {id : Nat} {a : Act} {w : World} {l : List Oper} (hb al : List Nat) (u : Nat) (tl : List Nat) (hm : P.follows .mixedOrders = true) (hB : fullB .any l.toArray [] hb [] al u tl = true) (hQ : ∀ c a d v w, Q (.panic c) (a.put d v) w → Q (.panic c) a w) (hC : C w.drew)
    (h : wpQuiet P l.toArray C (fun a' => wpAl P l.toArray Q C (fun a2 w2 => wpList P l.toArray Q (pickOps l (u :: tl)) a2 w2) (pickOps l al) a' w.drew) (pickOps l hb) a) : (Code.region id l.toArray true).wp P Q a w := by
  simp only [fullB, Bool.and_eq_true, decide_eq_true_eq, List.all_eq_true, List.append_nil] at hB
  obtain ⟨⟨⟨⟨⟨⟨⟨⟨⟨⟨⟨⟨⟨hsel, hs1⟩, hc1⟩, hs2⟩, hc2⟩, hd1⟩, hd2⟩, hlt⟩, hzlt⟩, hlen⟩, hcov⟩, hz⟩, hhb⟩, hlex⟩ := hB
  have hdis : ∀ k ∈ u :: tl, k ∉ hb ++ al := fun k hk hc => by have := hd1 k hc; simp only [Bool.not_eq_true', List.contains_eq_mem, decide_eq_false_iff_not] at this; exact this hk
  have inv0 : HeadBy .any l.toArray (u :: tl) (Array.replicate l.toArray.size false) :=
    ⟨by simp, fun j oj _ hl => (by rw [getD_replicate_false] at hl; cases hl), fun x hx => getD_in (by have := hlt x (List.mem_append.2 (.inr hx)); simpa using this) (getD_replicate_false _ _)⟩
  have hI1 : ∀ listed j, HeadBy .any l.toArray (u :: tl) listed → j ∈ Region.ready .any l.toArray listed → j ∈ hb ++ al → HeadBy .any l.toArray (u :: tl) (listed.setIfInBounds j true) :=
    fun listed j h hj hc => h.set hj (fun hx => hdis j hx hc)
  have hw1 : ∀ i, i ∈ hb ++ al → ∀ listed j, HeadBy .any l.toArray (u :: tl) listed → listed.getD i true = false → j ∈ Region.ready .any l.toArray listed → j ∈ hb ++ al := by
    intro i hi listed j hI hun hj
    obtain ⟨hjun, oj, hoj, _⟩ := mem_ready.1 hj
    have hjs : j < l.toArray.size := (Array.getElem?_eq_some_iff.1 hoj).1
    have hcj := hcov j (List.mem_range.2 hjs)
    simp only [Bool.or_eq_true, List.contains_eq_mem, decide_eq_true_eq] at hcj
    rcases hcj with (h1 | h1) | h1
    · cases h1
    · exact h1
    · exfalso
      rcases List.mem_cons.1 h1 with rfl | h2
      · exact first_waits hI _ hs1 i hi hun hj
      · exact chain_waits tl u hc1 hI.tail j h2 hj
  refine wp_region_any hm ?_
  suffices H2 : wpAny P .any l.toArray Q (hb.length + (al ++ u :: tl).length) (Array.replicate l.toArray.size false) a { w with drawn := w.drawn + 1 } by
    rw [List.length_nil, Nat.zero_add, Nat.zero_add] at hlen
    rw [hlen] at H2; exact H2
  refine wpAny_of_wpS (C := C) (cal := hb ++ al) _ _ _ _ ?_
  refine wpS_of_hb hsel hQ (fun listed => HeadBy .any l.toArray (u :: tl) listed) hI1 hw1 hC hb _ a inv0 (fun i hi => by simp [hi]) hhb h ?_
  intro a2 hI2 h2
  exact wpS_of_al al _ a2 _ hdis hlex h2
end
/-- a tick's doing: t is what it tells, in block tb; wb holds the world's pointer -/
structure TkA (w : World) (c : Cfg) (y : Lay) (S : WS) (K base : Nat) (ow : Nat → Tag) (tb wb : Nat) (t : Tol) (W : World) (ow1 : Nat → Tag) : Prop where
  pw : PW W c y S K base ow1
  kept : Kept w W ow ow1
  tn : ow1 tb = .no
  wn : ow1 wb = .no
  bw : base ≤ w.heap.size
  tl : w.heap.size ≤ tb
  wl : w.heap.size ≤ wb
  tk : Blk W tb 42 t.cells.toArray
  wk : Blk W wb 48 #[.pointer (some ⟨y.hb, 0, none⟩)]
  own : TolOwn t W w.heap.size
  no : TolNo t ow1
section
variable {w W W' : World} {c : Cfg} {y : Lay} {S S' : WS} {K base tb wb : Nat} {ow ow1 ow2 : Nat → Tag} {t : Tol}
theorem TolNo.turn (h : TolNo t ow1) (ho : TolOwn t W base) (hk : Kept W W' ow1 ow2) : TolNo t ow2 := fun v hv k hk' => by
  rw [hk.old k ?_]
  · exact h v hv k hk'
  · rcases hv with rfl | rfl | rfl
    · exact (ho.so.lt k hk').2
    · exact (ho.fo.lt k hk').2
    · exact (ho.ro.lt k hk').2
theorem TolOwn.kept (h : TolOwn t W base) (hn : TolNo t ow1) (hk : Kept W W' ow1 ow2) : TolOwn t W' base :=
  ⟨hk.own h.so (hn _ (Or.inl rfl)), hk.own h.fo (hn _ (Or.inr (Or.inl rfl))), hk.own h.ro (hn _ (Or.inr (Or.inr rfl)))⟩
theorem TkA.turn (h : TkA w c y S K base ow tb wb t W ow1) (hp : PW W' c y S' K base ow2) (hk : Kept W W' ow1 ow2) : TkA w c y S' K base ow tb wb t W' ow2 :=
  ⟨hp, h.kept.trans hk, (hk.old tb h.tk.lt).trans h.tn, (hk.old wb h.wk.lt).trans h.wn, h.bw, h.tl, h.wl, hk.blk h.tk h.tn, hk.blk h.wk h.wn, h.own.kept h.no hk, h.no.turn h.own hk⟩
theorem TkA.calm (h : TkA w c y S K base ow tb wb t W ow1) (hb : Below W.heap.size W W') : TkA w c y S K base ow tb wb t W' ow1 := h.turn (h.pw.calm hb) (Kept.calm hb)
end
section
variable {w W W' : World} {c : Cfg} {y : Lay} {S S' : WS} {K base tb wb : Nat} {ow ow1 ow2 : Nat → Tag} {t : Tol} {D : Nat → Prop}
/-- what is nobody's, and of the call's own, turned -/
theorem TkA.touch (h : TkA w c y S K base ow tb wb t W ow1) (ho : Only D W W') (hD : ∀ k, k < W.heap.size → D k → w.heap.size ≤ k ∧ ow1 k = .no) : PW W' c y S K base ow1 ∧ Kept w W' ow ow1 :=
  ⟨h.pw.far (D := fun k => k < W.heap.size ∧ D k) (ho.mono fun x hx hd => ⟨hx, hd⟩) (fun k hk hd => (hD k hk hd.2).2) (fun k hk hd => by have := (hD k hd.1 hd.2).1; have := h.bw; omega),
    ⟨h.kept.only.trans ho (fun x hx hd => by have := (hD x (Nat.lt_of_lt_of_le hx h.kept.only.size) hd).1; omega), h.kept.old⟩⟩
theorem TkA.rowD (h : TkA w c y S K base ow tb wb t W ow1) {v : Value} (hv : v = Value.slice t.sA t.sn t.sc ∨ v = Value.slice t.fA t.fn t.fc ∨ v = Value.slice t.rA t.rn t.rc) {k : Nat} (hk : v.ownBlock = some k) : (w.heap.size ≤ k ∧ k < W.heap.size) ∧ ow1 k = .no := by
  refine ⟨?_, h.no v hv k hk⟩
  rcases hv with rfl | rfl | rfl
  · exact h.own.so.lt k hk
  · exact h.own.fo.lt k hk
  · exact h.own.ro.lt k hk
end
def sentTo (d : TolD) (l : List Envl) : TolD := { d with sent := d.sent ++ l }
/-- a letter is posted and told -/
def SendPost (w : World) (c : Cfg) (y : Lay) (S : WS) (K base : Nat) (ow : Nat → Tag) (tb wb : Nat) (t : Tol) (p : PoD) (W : World) (ow1 : Nat → Tag) (e : Ending) (W' : World) : Prop :=
  e = .returned (.tuple #[]) ∧ ∃ (t2 : Tol) (ow2 : Nat → Tag), TkA w c y (S.posts [p]) K base ow tb wb t2 W' ow2 ∧ t2.d = sentTo t.d [⟨S.lts.length, p.fr, p.to_, p.data.length⟩] ∧ (t2.fA = t.fA ∧ t2.fn = t.fn ∧ t2.fc = t.fc) ∧ (t2.rA = t.rA ∧ t2.rn = t.rn ∧ t2.rc = t.rc) ∧
    Only (fun k => ow1 k ≠ .no ∨ k = tb ∨ (Value.slice t.sA t.sn t.sc).ownBlock = some k) W W' ∧ ∀ k, k < W.heap.size → ow2 k = ow1 k
/-- what the region's loads want -/
structure SndL (tb wb hb og : Nat) (cs : Array Value) where
  W : World
  t : Blk W tb 42 cs
  b : Blk W wb 48 #[.pointer (some ⟨hb, 0, none⟩)]
  o : W.cell? ⟨hb, 7, none⟩ = some (.pointer (some ⟨og, 0, none⟩))
theorem envl_info : ∃ i, Tryd.prog.info? 89 = some i ∧ i.zero = some (.agg #[.int .i64 0, .int .i64 0, .int .i64 0, .int .i64 0]) ∧ i.size = 4 ∧ i.bytes = 32 := info_of (by kernel_rfl)
section
variable {w W : World} {c : Cfg} {y : Lay} {S : WS} {K base tb wb : Nat} {ow ow1 : Nat → Tag} {t : Tol}
theorem tol_set8 (t : Tol) (A : Option Addr) (n cc : Nat) (l : List Envl) : t.cells.toArray.setIfInBounds 8 (.slice A n cc) = (Tol.cells { t with d := sentTo t.d l, sA := A, sn := n, sc := cc }).toArray := by
  simp [Tol.cells, sentTo]
theorem TkA.grownS {W2 w4 : World} {ow2 : Nat → Tag} (h : TkA w c y S K base ow tb wb t W2 ow2) (hg : W2.grownBy w4 (Value.slice t.sA t.sn t.sc).ownBlock) : PW w4 c y S K base ow2 ∧ Blk w4 tb 42 t.cells.toArray ∧ Blk w4 wb 48 #[.pointer (some ⟨y.hb, 0, none⟩)] := by
  have o1 : Only (fun k => (Value.slice t.sA t.sn t.sc).ownBlock = some k) W2 w4 := (Only.refl _ W2).grown hg (fun g hg _ => hg)
  exact ⟨(h.touch o1 fun k _ hd => ⟨(h.rowD (Or.inl rfl) hd).1.1, (h.rowD (Or.inl rfl) hd).2⟩).1, h.tk.only o1 (own_blk_ne h.own.so h.tk (by decide)), h.wk.only o1 (own_blk_ne h.own.so h.wk (by decide))⟩
theorem TkA.send {W2 w4 : World} {ow2 : Nat → Tag} {l : List Envl} {g4 cap4 : Nat} (h : TkA w c y S K base ow tb wb t W2 ow2) (hg : W2.grownBy w4 (Value.slice t.sA t.sn t.sc).ownBlock) (hown : w4.ownsRow w.heap.size 89 4 (.slice (some ⟨g4, 0, none⟩) (t.sn + 1) cap4) (t.sn + 1) (t.d.sent.flatMap Envl.cells ++ l.flatMap Envl.cells))
    (hat : some g4 = (Value.slice t.sA t.sn t.sc).ownBlock ∨ g4 = W2.heap.size + 1) :
    TkA w c y S K base ow tb wb { t with d := sentTo t.d l, sA := some ⟨g4, 0, none⟩, sn := t.sn + 1, sc := cap4 } (w4.setCell ⟨tb, 8, none⟩ (.slice (some ⟨g4, 0, none⟩) (t.sn + 1) cap4)) ow2 ∧ Only (fun k => k = tb ∨ (Value.slice t.sA t.sn t.sc).ownBlock = some k) W2 (w4.setCell ⟨tb, 8, none⟩ (.slice (some ⟨g4, 0, none⟩) (t.sn + 1) cap4)) := by
  have o1 : Only (fun k => (Value.slice t.sA t.sn t.sc).ownBlock = some k) W2 w4 := (Only.refl _ W2).grown hg (fun g hg _ => hg)
  have o2 : Only (fun k => k = tb) w4 (w4.setCell ⟨tb, 8, none⟩ (.slice (some ⟨g4, 0, none⟩) (t.sn + 1) cap4)) := only_put (Only.refl _ _) _ _
  have o3 : Only (fun k => k = tb ∨ (Value.slice t.sA t.sn t.sc).ownBlock = some k) W2 (w4.setCell ⟨tb, 8, none⟩ (.slice (some ⟨g4, 0, none⟩) (t.sn + 1) cap4)) := (o1.mono fun x _ h => Or.inr h).trans o2 fun x _ h => Or.inl h
  have k4 : Blk w4 tb 42 t.cells.toArray := h.tk.only o1 (own_blk_ne h.own.so h.tk (by decide))
  have hD : ∀ k, k < W2.heap.size → (k = tb ∨ (Value.slice t.sA t.sn t.sc).ownBlock = some k) → w.heap.size ≤ k ∧ ow2 k = .no := fun k _ hd => by
    rcases hd with rfl | hd
    · exact ⟨h.tl, h.tn⟩
    · exact ⟨(h.rowD (Or.inl rfl) hd).1.1, (h.rowD (Or.inl rfl) hd).2⟩
  have hn : ∀ {e : TypeId} {size n : Nat} {v : Value} {xs : List Value}, W2.ownsRow w.heap.size e size v n xs → e ≠ 89 → e ≠ 42 → (w4.setCell ⟨tb, 8, none⟩ (.slice (some ⟨g4, 0, none⟩) (t.sn + 1) cap4)).ownsRow w.heap.size e size v n xs := fun hv h1 h2 =>
    own_only hv o3 fun k hk hd => by
      rcases hd with rfl | hd
      · exact own_blk_ne hv h.tk h2 hk
      · rcases own_own_ne hv h.own.so h1 with e1 | e1
        · rw [e1] at hk; cases hk
        · exact e1 (by rw [hk, hd])
  have hown' : w4.ownsRow w.heap.size 89 4 (.slice (some ⟨g4, 0, none⟩) (t.sn + 1) cap4) (t.sn + 1) ((sentTo t.d l).sent.flatMap Envl.cells) := by
    show w4.ownsRow _ _ _ _ _ ((t.d.sent ++ l).flatMap Envl.cells)
    rw [List.flatMap_append]
    exact hown
  obtain ⟨hp, hk⟩ := h.touch o3 hD
  refine ⟨⟨hp, hk, h.tn, h.wn, h.bw, h.tl, h.wl, ?_, h.wk.only o3 (fun hd => ?_), ⟨own_only hown' o2 (fun k hk e => own_blk_ne hown k4 (by decide) (by rw [hk, e])), hn h.own.fo (by decide) (by decide), hn h.own.ro (by decide) (by decide)⟩, fun v hv k hk => ?_⟩, o3⟩
  · rw [← tol_set8]
    exact k4.set_ 8 _
  · rcases hd with e | e
    · exact Blk.ne_ h.wk h.tk (by decide) e
    · exact own_blk_ne h.own.so h.wk (by decide) e
  · rcases hv with rfl | hv
    · have : k = g4 := by simpa [Value.ownBlock] using hk.symm
      subst this
      rcases hat with e | e
      · exact (h.rowD (Or.inl rfl) e.symm).2
      · exact h.pw.fresh _ (by omega)
    · exact h.no v (Or.inr hv) k hk
set_option maxRecDepth 100000 in
set_option maxHeartbeats 4000000 in
theorem tickSend_any (h : TkA w c y S K base ow tb wb t W ow1) (hl : S.lts.length ≤ 1000000) (fr to_ : Int) (er : Value) (A : Option Addr) (n cc : Nat) (data : List Int) (B : Nat) (hdl : data.length = n) (hn : n ≤ 1000000) (hr : Reads W B 1 A n (data.map (.int .u8))) (hB : B ≤ W.heap.size)
    (hf : (Lit.int .i64 fr).wf = true) (ht : (Lit.int .i64 to_).wf = true) (hs : t.sn ≤ 1000000) :
    Calls Tryd.prog 30 #[.int .i64 fr, .int .i64 to_, .slice A n cc, er, .pointer (some ⟨tb, 0, none⟩), .pointer (some ⟨wb, 0, none⟩)] W (SendPost w c y S K base ow tb wb t ⟨fr, to_, data⟩ W ow1) := by
  obtain ⟨iE, hiE, hzE, hsE, hyE⟩ := envl_info
  have hd := h.calm (Below.refl _ W).drew
  have HPO := hide (officePostW_any hd.pw hl fr to_ A n cc data B hdl hn hr hB hf ht)
  have HH := hide h
  have HL := hide hdl
  go_enter Tryd.func30, Tryd.ntmps30
  obtain ⟨cs, hcs⟩ : ∃ cs, cs = t.cells.toArray := ⟨_, rfl⟩
  have r8 : ∀ n2 : SndL tb wb y.hb y.og cs, n2.W.cell? ⟨tb, 8, none⟩ = some (.slice t.sA t.sn t.sc) := fun n2 => by rw [n2.t.cell 8, hcs]; rfl
  have rb : ∀ n2 : SndL tb wb y.hb y.og cs, n2.W.cell? ⟨wb, 0, none⟩ = some (.pointer (some ⟨y.hb, 0, none⟩)) := fun n2 => n2.b.cell 0
  have ro : ∀ n2 : SndL tb wb y.hb y.og cs, n2.W.cell? ⟨y.hb, 7, none⟩ = some (.pointer (some ⟨y.og, 0, none⟩)) := fun n2 => n2.o
  have hM : ∀ (X : World) (S' : WS) (o' : Nat → Tag), TkA w c y S' K base ow tb wb t X o' → ∃ n2 : SndL tb wb y.hb y.og cs, X = n2.W := fun X S' o' hx => ⟨⟨_, by rw [hcs]; exact hx.tk, hx.wk, (hx.pw.pc .con).blk.cell 7⟩, rfl⟩
  have HCS := hide hcs
  have HM := hide hM
  have HD := hide hd
  clear hcs hM
  haveI hne : Nonempty (SndL tb wb y.hb y.og cs) := ⟨(unhide HM _ _ _ hd).choose⟩
  clear hd h
  go_upto_region 0 with fail
  refine wp_region_weakF (C := fun w' => ∃ n2 : SndL tb wb y.hb y.og cs, w' = n2.W) [0, 1, 2, 3, 4, 5, 6, 7, 8, 10, 11, 12, 13] [9, 14, 15, 16, 17] 18 [] (by kernel_rfl) (by kernel_rfl) (by intro c a d v w h; cases d <;> exact h) (unhide HM _ _ _ (unhide HD)) ?_
  simp only [pickOps, List.map_cons, List.map_nil, List.getD_cons_zero, List.getD_cons_succ]
  repeat (go_big_quiet_step (fail))
  refine wpQuiet_nil ?_
  simp only [wpAl]
  obtain ⟨wd, hwd⟩ : ∃ wd, wd = W.drew := ⟨_, rfl⟩
  rw [← hwd] at HPO HD
  rw [← hwd]
  have HWD := hide hwd
  clear hwd r8 rb ro
  go_wp2_with fail
  refine (unhide HPO).mono ?_
  rintro _ w2 ⟨rfl, ow2, hp2, hk2⟩
  have h2 := (unhide HD).turn hp2 hk2
  have H2 := hide h2
  have HK2 := hide hk2
  clear hp2 hk2
  clear h2
  go_wp2_with fail
  refine ⟨unhide HM _ _ _ (unhide H2), ?_⟩
  go_wp2_with fail
  refine ⟨unhide HM _ _ _ (unhide H2), ?_⟩
  have HO2 := hide (unhide H2).own.so
  have HMQ := hide (show (t.sn + 1) * 32 ≤ 140737488355328 by omega)
  have hsz := (unhide H2).kept.only.size
  go_wp2_with fail
  refine ⟨unhide HM _ _ _ ((unhide H2).calm ((Below.refl _ _).alloc (Nat.le_refl _) _)), ?_⟩
  go_wp2_with (at_builtin; (refine wpList_append_new w2 rfl (.tmp 11) (.tmp 25) _ rfl w.heap.size 89 iE _ 4 32 Tryd.underlying39 hiE hzE hsE hyE rfl (by omega) (by omega) _ t.sn _ (unhide HO2) rfl _ 1 _ rfl rfl rfl (by simp [Value.oneCell']) (unhide HMQ) hsz ?_); intro g4 cap4 w4 hg4 hown4 hbel4 hgr4 hat4)
  have k8 : w4.cell? ⟨tb, 8, none⟩ = some (.slice t.sA t.sn t.sc) := ((unhide H2).grownS hgr4).2.1.cell 8
  have f8 : w4.frozen? ⟨tb, 8, none⟩ = false := ((unhide H2).grownS hgr4).2.1.frozen 8
  have hm4 : ∃ n2 : SndL tb wb y.hb y.og cs, w4 = n2.W := ⟨⟨_, by rw [unhide HCS]; exact ((unhide H2).grownS hgr4).2.1, ((unhide H2).grownS hgr4).2.2, ((((unhide H2).grownS hgr4).1).pc .con).blk.cell 7⟩, rfl⟩
  have HM4 := hide hm4
  refine ⟨hm4, ?_⟩
  clear hm4
  go_wp2_with fail
  refine ⟨unhide HM4, ?_⟩
  obtain ⟨h5, o5⟩ := (unhide H2).send (l := [⟨S.lts.length, fr, to_, n⟩]) hgr4 hown4 hat4
  have H5 := hide h5
  have O5 := hide o5
  clear hg4 hown4 hbel4 hgr4 hat4 h5 o5
  go_wp2_with fail
  go_end0
  refine ⟨rfl, _, ow2, unhide H5, ?_, ⟨rfl, rfl, rfl⟩, ⟨rfl, rfl, rfl⟩, ?_, fun k hk => ?_⟩
  · dsimp only; rw [unhide HL]
  · have e1 : Only (fun k => ow1 k ≠ .no) W w2 := by have := (unhide HK2).only; rw [unhide HWD] at this; exact (Only.refl _ W).drew.trans this fun x _ h => h
    exact (e1.mono fun x _ h => Or.inl h).trans (unhide O5) fun x _ h => Or.inr h
  · have := (unhide HK2).old k (by rw [unhide HWD]; exact hk)
    exact this
end
end
section
open Go.RowKit
/-- a row of numbers and its value -/
structure RwI where
  v : Value
  zs : List Int
def RwI.nil : RwI := ⟨.slice none 0 0, []⟩
/-- a table of rows of numbers, all of the call's own, no two in one block -/
structure GivA (w : World) (base g : Nat) (S : List RwI) : Prop where
  blk : Blk w g 22 (S.map RwI.v).toArray
  rows : ∀ r ∈ S, w.ownsRow base 3 1 r.v r.zs.length (r.zs.map (.int .i64))
  apart : ∀ (i j : Nat) (ri rj : RwI), S[i]? = some ri → S[j]? = some rj → i ≠ j → ri.v.ownBlock = none ∨ ri.v.ownBlock ≠ rj.v.ownBlock
  low : base ≤ g
section
variable {w w' : World} {base g : Nat} {S : List RwI}
theorem GivA.only {D : Nat → Prop} (h : GivA w base g S) (ho : Only D w w') (h1 : ¬ D g) (h2 : ∀ r ∈ S, ∀ k, r.v.ownBlock = some k → ¬ D k) : GivA w' base g S :=
  ⟨h.blk.only ho h1, fun r hr => own_only (h.rows r hr) ho (h2 r hr), h.apart, h.low⟩
theorem GivA.calm (h : GivA w base g S) (hb : Below w.heap.size w w') : GivA w' base g S :=
  h.only (D := fun _ => False) (Only.of_below hb (fun x h1 h2 => by omega)) (fun e => e) (fun _ _ _ _ e => e)
theorem GivA.own (h : GivA w base g S) {base' : Nat} {e : TypeId} {size k : Nat} {v : Value} {xs : List Value} (hv : w.ownsRow base' e size v k xs) (he : e ≠ 22 ∧ e ≠ 3) (hg : w.grownBy w' v.ownBlock) : GivA w' base g S :=
  h.only ((Only.refl _ _).grown hg (D := fun k => v.ownBlock = some k) (fun g hg _ => hg)) (own_blk_ne hv h.blk he.1) fun r hr k hk hd => by
    rcases own_own_ne hv (h.rows r hr) he.2 with e1 | e1
    · rw [e1] at hd; cases hd
    · exact e1 (by rw [hk, hd])
theorem GivA.cell (h : GivA w base g S) {i : Nat} {r : RwI} (hi : S[i]? = some r) : w.cell? ⟨g, i, none⟩ = some r.v := by
  rw [h.blk.cell i]
  simp [hi]
/-- a row grows, and is stored again -/
theorem GivA.push (h : GivA w base g S) {i : Nat} {r r' : RwI} (hi : S[i]? = some r) (hg : w.grownBy w' r.v.ownBlock) (ho : w'.ownsRow base 3 1 r'.v r'.zs.length (r'.zs.map (.int .i64))) (hat : r'.v.ownBlock = r.v.ownBlock ∨ ∃ k, r'.v.ownBlock = some k ∧ w.heap.size ≤ k) :
    GivA (w'.setCell ⟨g, i, none⟩ r'.v) base g (S.set i r') := by
  have h1 : Only (fun k => r.v.ownBlock = some k) w w' := (Only.refl _ _).grown hg (fun g hg _ => hg)
  have h2 : Only (fun k => k = g) w' (w'.setCell ⟨g, i, none⟩ r'.v) := only_put (Only.refl _ _) _ _
  have hrr := h.rows r (List.mem_of_getElem? hi)
  have hb1 := h.blk.only h1 (fun e => own_blk_ne hrr h.blk (by decide) e)
  have hother : ∀ (j : Nat) (rj : RwI), S[j]? = some rj → i ≠ j → (w'.setCell ⟨g, i, none⟩ r'.v).ownsRow base 3 1 rj.v rj.zs.length (rj.zs.map (.int .i64)) := fun j rj hj hij => by
    have hrj := h.rows rj (List.mem_of_getElem? hj)
    refine own_only (own_only hrj h1 fun k hk hd => ?_) h2 fun k hk e => ?_
    · rcases h.apart i j r rj hi hj hij with e | e
      · rw [e] at hd; cases hd
      · exact e (by rw [hd, hk])
    · exact own_blk_ne hrj h.blk (by decide) (by rw [hk, e])
  have hself : (w'.setCell ⟨g, i, none⟩ r'.v).ownsRow base 3 1 r'.v r'.zs.length (r'.zs.map (.int .i64)) := own_only ho h2 fun k hk e => own_blk_ne ho hb1 (by decide) (by rw [hk, e])
  have hil := (List.getElem?_eq_some_iff.1 hi).1
  refine ⟨?_, fun x hx => ?_, fun a b ra rb ha hb hab => ?_, h.low⟩
  · have := hb1.set_ i r'.v
    have e : (S.map RwI.v).toArray.setIfInBounds i r'.v = ((S.set i r').map RwI.v).toArray := by
      rw [← Array.toList_inj]
      simp [List.map_set]
    rwa [e] at this
  · obtain ⟨j, hj⟩ := List.mem_iff_getElem?.1 hx
    by_cases hij : i = j
    · subst hij
      rw [List.getElem?_set_self hil] at hj
      cases hj
      exact hself
    · rw [List.getElem?_set_ne hij] at hj
      exact hother j x hj hij
  · have fresh : ∀ (j : Nat) (rj : RwI), S[j]? = some rj → i ≠ j → (r'.v.ownBlock = none ∨ r'.v.ownBlock ≠ rj.v.ownBlock) ∧ (rj.v.ownBlock = none ∨ rj.v.ownBlock ≠ r'.v.ownBlock) := fun j rj hj hij => by
      rcases hat with e | ⟨k, hk, hkl⟩
      · rw [e]
        exact ⟨h.apart i j r rj hi hj hij, h.apart j i rj r hj hi (fun e => hij e.symm)⟩
      · have hlt := (h.rows rj (List.mem_of_getElem? hj)).lt
        refine ⟨.inr fun e => ?_, ?_⟩
        · rw [hk] at e
          have := (hlt k e.symm).2
          omega
        · right
          intro e
          rw [hk] at e
          have := (hlt k e).2
          omega
    by_cases hai : i = a
    · subst hai
      rw [List.getElem?_set_self hil] at ha
      cases ha
      rw [List.getElem?_set_ne hab] at hb
      exact (fresh b rb hb hab).1
    · rw [List.getElem?_set_ne hai] at ha
      by_cases hbi : i = b
      · subst hbi
        rw [List.getElem?_set_self hil] at hb
        cases hb
        exact (fresh a ra ha hai).2
      · rw [List.getElem?_set_ne hbi] at hb
        exact h.apart a b ra rb ha hb hab
end
theorem GivA.new {w : World} {base g n : Nat} (h : Blk w g 22 (nilRow n)) (hb : base ≤ g) : GivA w base g (List.replicate n RwI.nil) := by
  have key : ∀ (i : Nat) (r : RwI), (List.replicate n RwI.nil)[i]? = some r → r = RwI.nil := fun i r hr => (List.mem_replicate.1 (List.mem_of_getElem? hr)).2
  refine ⟨?_, fun r hr => ?_, fun i j ri rj hi hj hij => .inl ?_, hb⟩
  · rw [List.map_replicate]
    exact h
  · rw [(List.mem_replicate.1 hr).2]
    exact World.ownsRow_nil _ _ _ _
  · rw [key i ri hi]
    rfl
/-- no row lies in v's block -/
def Gap (L : List RwI) (v : Value) : Prop := ∀ r ∈ L, ∀ k, r.v.ownBlock = some k → v.ownBlock ≠ some k
theorem Gap.set_ {L : List RwI} {v : Value} (h : Gap L v) {i : Nat} {r r' : RwI} {B : Nat} (hi : L[i]? = some r) (hat : r'.v.ownBlock = r.v.ownBlock ∨ ∃ k, r'.v.ownBlock = some k ∧ B ≤ k) (hv : ∀ k, v.ownBlock = some k → k < B) : Gap (L.set i r') v := fun x hx k hk e => by
  rcases List.mem_or_eq_of_mem_set hx with hx | rfl
  · exact h x hx k hk e
  · rcases hat with e2 | ⟨k2, e2, hk2⟩
    · exact h r (List.mem_of_getElem? hi) k (by rw [← e2]; exact hk) e
    · rw [hk] at e2
      cases e2
      have := hv k e
      omega
theorem Gap.of_lt {L : List RwI} {v : Value} {w : World} {base g B : Nat} (h : GivA w base g L) (hB : w.heap.size ≤ B) (hv : ∀ k, v.ownBlock = some k → B ≤ k) : Gap L v := fun r hr k hk e => by
  have := ((h.rows r hr).lt k hk).2
  have := hv k e
  omega
theorem Gap.to_ {L : List RwI} {v v' : Value} {w : World} {base g B : Nat} (h : Gap L v) (hL : GivA w base g L) (hB : w.heap.size ≤ B) (hv : ∀ k, v'.ownBlock = some k → v.ownBlock = some k ∨ B ≤ k) : Gap L v' := fun r hr k hk e => by
  rcases hv k e with h2 | h2
  · exact h r hr k hk h2
  · have := ((hL.rows r hr).lt k hk).2
    omega
section
variable {w W W' : World} {c : Cfg} {y : Lay} {S S' : WS} {K base : Nat} {ow : Nat → Tag}
theorem ShRow.congr {g m : Nat} {f f' : Nat → Shf} {own : Nat → Prop} (h : ShRow w base g m f own) (hf : ∀ k, k < m → f' k = f k) : ShRow w base g m f' own := by
  obtain ⟨⟨cs, vs, h1, h2⟩, o⟩ := h
  exact ⟨⟨cs, vs, fun k hk => by rw [hf k hk]; exact h1 k hk, h2⟩, o⟩
theorem PW.congrSh (h : PW w c y S K base ow) (sh' : Nat → Nat → Shf) (hs : ∀ i k, i < c.n → k < c.m → sh' i k = S.sh i k) : PW w c y { S with sh := sh' } K base ow := by
  refine ⟨fun t => ?_, h.low, h.fresh, h.cfg, h.may, h.bw⟩
  have := h.pc t
  cases t with
  | sh i => exact fun hi => (this hi).congr (hs i · hi)
  | _ => exact this
theorem PW.aged (h : PW w c y (S.tkTo c.m c.n 0) K base ow) : PW w c y S.aged K base ow :=
  h.congrSh (fun i k => ((S.sh i k).does tickO).1) fun i k hi hk => (if_pos (Or.inl ⟨hi, hk⟩)).symm
end
end
end Go.Proofs.YtbolcebmbpepdaaDoor
