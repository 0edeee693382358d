/- Contracts and plain facts, set together by program out of smaller texts. Conditions: none beyond what each theorem states. -/
import Derived.Test.YtbolcebmbpepdaaDoorM39
import Derived.Test.YtbolcebmbpepdaaDoorM43
namespace Go.Proofs.YtbolcebmbpepdaaDoor
set_option linter.unusedVariables false
section
open Go.RowKit
section
variable {w W : World} {c : Cfg} {y : Lay} {S S' : WS} {K base tb wb : Nat} {ow ow1 : Nat → Tag} {t : Tol}
theorem TkA.w0 (h : TkA w c y S K base ow tb wb t W ow1) : W.cell? ⟨wb, 0, none⟩ = some (.pointer (some ⟨y.hb, 0, none⟩)) := h.wk.cell 0
theorem TkA.h5 (h : TkA w c y S K base ow tb wb t W ow1) : W.cell? ⟨y.hb, 5, none⟩ = some (.slice (some ⟨y.bb, 0, none⟩) c.n y.bc) := (h.pw.pc .con).blk.cell 5
theorem TkA.h6 (h : TkA w c y S K base ow tb wb t W ow1) : W.cell? ⟨y.hb, 6, none⟩ = some (.slice (some ⟨y.kb, 0, none⟩) c.m y.kc) := (h.pw.pc .con).blk.cell 6
theorem TkA.h0 (h : TkA w c y S K base ow tb wb t W ow1) : W.cell? ⟨y.hb, 0, none⟩ = some (.int .i64 c.br) := (h.pw.pc .con).blk.cell 0
theorem TkA.br (h : TkA w c y S K base ow tb wb t W ow1) {i : Nat} (hi : i < c.n) : W.cell? ⟨y.bb, i, none⟩ = some (.pointer (some ⟨(y.br i).b, 0, none⟩)) := by
  obtain ⟨cs, h1, h2⟩ := (h.pw.pc .con).row
  exact (h1.cell i).trans (h2 i hi)
theorem TkA.bk (h : TkA w c y S K base ow tb wb t W ow1) {j : Nat} (hj : j < c.m) : W.cell? ⟨y.kb, j, none⟩ = some (.pointer (some ⟨y.bg j, 0, none⟩)) := by
  obtain ⟨cs, h1, h2⟩ := (h.pw.pc .con).bks
  exact (h1.cell j).trans (h2 j hj)
theorem TkA.s0 (h : TkA w c y S K base ow tb wb t W ow1) {i : Nat} (hi : i < c.n) : W.cell? ⟨(y.br i).b, 0, none⟩ = some (.slice (some ⟨(y.br i).s, 0, none⟩) c.m c.m) := ((h.pw.pc .con).brs i hi).cell 0
theorem TkA.s1 (h : TkA w c y S K base ow tb wb t W ow1) {i : Nat} (hi : i < c.n) : W.cell? ⟨(y.br i).b, 1, none⟩ = some (.slice (some ⟨(y.br i).a, 0, none⟩) c.m c.m) := ((h.pw.pc .con).brs i hi).cell 1
theorem TkA.s3 (h : TkA w c y S K base ow tb wb t W ow1) {i : Nat} (hi : i < c.n) : W.cell? ⟨(y.br i).b, 3, none⟩ = some (.slice (some ⟨(y.br i).t, 0, none⟩) c.ln c.ln) := ((h.pw.pc .con).brs i hi).cell 3
end
/-- what a tick has come to: the letters l are posted and told, the reports rep are told -/
structure TickAt (w : World) (c : Cfg) (y : Lay) (S : WS) (K base : Nat) (ow : Nat → Tag) (tb wb : Nat) (l : List PoD) (rep : List Int) (t : Tol) (W : World) (ow1 : Nat → Tag) : Prop where
  tk : TkA w c y (S.posts l) K base ow tb wb t W ow1
  d : t.d = ⟨0, 0, Stk.none, 0, envs S.lts.length l, [], rep⟩
section
variable {w W W' : World} {c : Cfg} {y : Lay} {S S' : WS} {K base tb wb : Nat} {ow ow1 : Nat → Tag} {t : Tol} {l : List PoD} {rep : List Int}
theorem TickAt.sn (h : TickAt w c y S K base ow tb wb l rep t W ow1) : t.sn = l.length := by
  have h1 := h.tk.own.ok.sl
  rw [h.d] at h1
  dsimp only at h1
  rw [envs_len] at h1
  exact h1.symm
theorem TickAt.calm (h : TickAt w c y S K base ow tb wb l rep t W ow1) (hb : Below W.heap.size W W') : TickAt w c y S K base ow tb wb l rep t W' ow1 := ⟨h.tk.calm hb, h.d⟩
theorem TickAt.send {p : PoD} {e : Ending} (h : TickAt w c y S K base ow tb wb l rep t W ow1) (hp : SendPost w c y (S.posts l) K base ow tb wb t p W ow1 e W') :
    e = .returned (.tuple #[]) ∧ ∃ (t2 : Tol) (ow2 : Nat → Tag), TickAt w c y S K base ow tb wb (l ++ [p]) rep t2 W' ow2 ∧ (t2.rA = t.rA ∧ t2.rn = t.rn ∧ t2.rc = t.rc) ∧ Only (fun k => ow1 k ≠ .no ∨ k = tb ∨ (Value.slice t.sA t.sn t.sc).ownBlock = some k) W W' ∧ ∀ k, k < W.heap.size → ow2 k = ow1 k := by
  obtain ⟨rfl, t2, ow2, h1, h2, _, h4, h5, h6⟩ := hp
  refine ⟨rfl, t2, ow2, ⟨?_, ?_⟩, h4, h5, h6⟩
  · rw [posts_posts] at h1
    exact h1
  · rw [h2, h.d, envs_snoc]
    unfold sentTo
    dsimp only
    unfold WS.posts
    dsimp only
    rw [List.length_append]
/-- a branch's asks, to be read -/
theorem TkA.asks (h : TkA w c y S K base ow tb wb t W ow1) {i : Nat} (hi : i < c.n) (hl : (S.ask i).length = c.m) : IRw.ok ⟨some ⟨(y.br i).a, 0, none⟩, c.m, c.m, S.ask i⟩ W W.heap.size := by
  have hm3 := (config_facts h.pw.may).2.2.2.1
  have := h.pw.pc (.ask i) hi
  exact ⟨hl, Nat.le_refl _, by unfold maxLen; dsimp only; omega, IRow.reads this.row hl⟩
/-- a branch's store, to be read -/
theorem TkA.tab (h : TkA w c y S K base ow tb wb t W ow1) {i : Nat} (hi : i < c.n) (hl : (S.st i).length = c.ln) : ∃ T : TabR, T.val = .slice (some ⟨(y.br i).t, 0, none⟩) c.ln c.ln ∧ TabOk W W.heap.size T ∧ T.es = S.st i := by
  have hln := (config_facts h.pw.may).2.1
  obtain ⟨⟨SS, h1, h2, h3⟩, o⟩ := h.pw.pc (.str i) hi
  have hSl : SS.length = c.ln := by rw [← hl, ← h2, List.length_map]
  refine ⟨⟨SS, some ⟨(y.br i).t, 0, none⟩, c.ln⟩, by unfold TabR.val; dsimp only; rw [hSl], ⟨⟨by have h := reads_of_blk h1.blk h1.blk.lt; simpa using h, fun r hr => Reads.of_own (h1.rows r hr)⟩, by dsimp only; unfold maxLen; omega, fun r hr => by have := h1.small r hr; unfold maxLen; omega⟩, h2⟩
end
theorem asksP_len (c : Cfg) (zs : List Int) (h : c.m ≤ 3) : (asksP c zs).1.length ≤ 8 := by
  unfold asksP
  split
  · exact Nat.zero_le _
  split
  · exact Nat.zero_le _
  rename_i hl
  split
  · exact Nat.zero_le _
  unfold packP
  have hfst : (zs.map fun z : Int => ((21 : Int), z)).map (·.1) = List.replicate zs.length 21 := by
    rw [List.map_map]
    exact List.map_const'
  rw [hfst]
  have hm : zs.length ≤ 3 := by unfold Cfg.m at h; omega
  have hb : ∀ n, n ≤ 3 → (sizeP (List.replicate n 21)).1.toNat ≤ 8 := fun n hn => by
    obtain h | h | h | h : n = 0 ∨ n = 1 ∨ n = 2 ∨ n = 3 := by omega
    all_goals rw [h]; decide
  split
  · exact Nat.zero_le _
  split
  · have := hb _ hm
    simpa [bytesOf] using this
  · exact Nat.zero_le _
theorem rumP_len (c : Cfg) (a b : Int) (R : List (List Ent)) (h : c.ln ≤ 4) : (rumourP c a b R).1.length ≤ 136 := by
  have := bothGo_len a.toNat b.toNat c.la.zs 0
  unfold Cfg.ln at h
  unfold rumourP
  split
  · exact Nat.zero_le _
  split
  · exact Nat.zero_le _
  split
  · exact Nat.zero_le _
  split
  · exact Nat.zero_le _
  split
  · exact Nat.zero_le _
  · simp [bytesOf]
    omega
def BytCut (l : List Int) (W : World) (v : Value) : Prop := ∃ A n cc B, v = .slice A n cc ∧ l.length = n ∧ W.ownsRow B 5 1 (.slice A n cc) n (l.map (.int .u8))
theorem BytCut.of {l : List Int} {W : World} {v : Value} {B : Nat} (h : W.ownsRow B 5 1 v l.length (l.map (.int .u8))) : BytCut l W v := by
  obtain ⟨A, c, rfl, _⟩ := own_slice h
  exact ⟨A, _, c, B, rfl, rfl, h⟩
end
section
open Go.RowKit
/-- a tick behind the branches' letters: the grants lie in block gb -/
structure GivAt (w : World) (c : Cfg) (y : Lay) (S : WS) (K base : Nat) (ow : Nat → Tag) (tb wb : Nat) (l : List PoD) (rep : List Int) (gb : Nat) (L : List RwI) (t : Tol) (W : World) (ow1 : Nat → Tag) : Prop where
  tk : TickAt w c y S K base ow tb wb l rep t W ow1
  giv : GivA W w.heap.size gb L
  gn : ow1 gb = .no
  rn : ∀ r ∈ L, ∀ b, r.v.ownBlock = some b → ow1 b = .no
  gap : Gap L (.slice t.rA t.rn t.rc)
section
variable {w W W' : World} {c : Cfg} {y : Lay} {S S' : WS} {K base tb wb gb : Nat} {ow ow1 ow2 : Nat → Tag} {t : Tol} {l : List PoD} {rep : List Int} {L : List RwI}
theorem rounds_zero (S : WS) (c : Cfg) : S.rounds c 0 = S := by
  show WS.mk _ _ _ _ _ _ _ _ = S
  simp
theorem rounds_succ (S : WS) (c : Cfg) (k : Nat) : S.rounds c (k + 1) = { S.rounds c k with bk := upd1 (S.rounds c k).bk k (roundB c.cap c.tk (S.bk k)).1 } := by
  have h : (S.rounds c (k + 1)).bk = upd1 (S.rounds c k).bk k (roundB c.cap c.tk (S.bk k)).1 := by
    funext j
    rw [upd1_if]
    show (if j < k + 1 then (roundB c.cap c.tk (S.bk j)).1 else S.bk j) = if j = k then _ else (if j < k then (roundB c.cap c.tk (S.bk j)).1 else S.bk j)
    by_cases h1 : j = k
    · subst h1; rw [if_pos (by omega), if_pos rfl]
    · rw [if_neg h1]
      by_cases h2 : j < k
      · rw [if_pos (by omega), if_pos h2]
      · rw [if_neg (by omega), if_neg h2]
  show WS.mk _ _ _ _ _ _ _ _ = _
  rw [← h]
  rfl
theorem GivAt.turn (h : GivAt w c y S K base ow tb wb l rep gb L t W ow1) (hp : PW W' c y (S'.posts l) K base ow2) (hk : Kept W W' ow1 ow2) (hS : S'.lts = S.lts) : GivAt w c y S' K base ow tb wb l rep gb L t W' ow2 := by
  refine ⟨⟨h.tk.tk.turn hp hk, by rw [h.tk.d, hS]⟩, h.giv.only hk.only (fun e => e h.gn) (fun r hr k hk2 e => e (h.rn r hr k hk2)), (hk.old gb h.giv.blk.lt).trans h.gn, fun r hr b hb => (hk.old b ((h.giv.rows r hr).lt b hb).2).trans (h.rn r hr b hb), h.gap⟩
theorem GivAt.calm (h : GivAt w c y S K base ow tb wb l rep gb L t W ow1) (hb : Below W.heap.size W W') : GivAt w c y S K base ow tb wb l rep gb L t W' ow1 :=
  h.turn (h.tk.tk.pw.calm hb) (Kept.calm hb) rfl
/-- a branch's grants grow -/
theorem GivAt.push {w4 : World} {i : Nat} {r r' : RwI} (h : GivAt w c y S K base ow tb wb l rep gb L t W ow1) (hi : L[i]? = some r) (hg : W.grownBy w4 r.v.ownBlock) (ho : w4.ownsRow w.heap.size 3 1 r'.v r'.zs.length (r'.zs.map (.int .i64))) (hat : r'.v.ownBlock = r.v.ownBlock ∨ ∃ k, r'.v.ownBlock = some k ∧ W.heap.size ≤ k) :
    GivAt w c y S K base ow tb wb l rep gb (L.set i r') t (w4.setCell ⟨gb, i, none⟩ r'.v) ow1 ∧ Only (fun k => k = gb ∨ r.v.ownBlock = some k) W (w4.setCell ⟨gb, i, none⟩ r'.v) := by
  have hrm := List.mem_of_getElem? hi
  have hrr := h.giv.rows r hrm
  have o1 : Only (fun k => r.v.ownBlock = some k) W w4 := (Only.refl _ W).grown hg (fun g hg _ => hg)
  have o2 : Only (fun k => k = gb) w4 (w4.setCell ⟨gb, i, none⟩ r'.v) := only_put (Only.refl _ _) _ _
  have o3 : Only (fun k => k = gb ∨ r.v.ownBlock = some k) W (w4.setCell ⟨gb, i, none⟩ r'.v) := (o1.mono fun x _ h => Or.inr h).trans o2 fun x _ h => Or.inl h
  have hD : ∀ k, k < W.heap.size → (k = gb ∨ r.v.ownBlock = some k) → w.heap.size ≤ k ∧ ow1 k = .no := fun k _ hd => by
    rcases hd with rfl | hd
    · exact ⟨h.giv.low, h.gn⟩
    · exact ⟨(hrr.lt k hd).1, h.rn r hrm k hd⟩
  obtain ⟨hp, hKK⟩ := h.tk.tk.touch o3 hD
  have hn : ∀ {e : TypeId} {size n : Nat} {v : Value} {xs : List Value}, W.ownsRow w.heap.size e size v n xs → e ≠ 22 → (e ≠ 3 ∨ ∀ k, r.v.ownBlock = some k → v.ownBlock ≠ some k) → (w4.setCell ⟨gb, i, none⟩ r'.v).ownsRow w.heap.size e size v n xs := fun hv h1 h2 =>
    own_only hv o3 fun k hk hd => by
      rcases hd with rfl | hd
      · exact own_blk_ne hv h.giv.blk h1 hk
      · rcases h2 with h2 | h2
        · rcases own_own_ne hv hrr h2 with e1 | e1
          · rw [e1] at hk; cases hk
          · exact e1 (by rw [hk, hd])
        · exact h2 k hd hk
  refine ⟨⟨⟨⟨hp, hKK, h.tk.tk.tn, h.tk.tk.wn, h.tk.tk.bw, h.tk.tk.tl, h.tk.tk.wl, h.tk.tk.tk.only o3 (fun hd => ?_), h.tk.tk.wk.only o3 (fun hd => ?_), ⟨hn h.tk.tk.own.so (by decide) (.inl (by decide)), hn h.tk.tk.own.fo (by decide) (.inl (by decide)), hn h.tk.tk.own.ro (by decide) (.inr fun k hk => h.gap r hrm k hk)⟩, h.tk.tk.no⟩, h.tk.d⟩, h.giv.push hi hg ho hat, h.gn, fun x hx b hb => ?_, h.gap.set_ hi hat (fun k hk => (h.tk.tk.own.ro.lt k hk).2)⟩, o3⟩
  · rcases hd with e | e
    · exact Blk.ne_ h.tk.tk.tk h.giv.blk (by decide) e
    · exact own_blk_ne hrr h.tk.tk.tk (by decide) e
  · rcases hd with e | e
    · exact Blk.ne_ h.tk.tk.wk h.giv.blk (by decide) e
    · exact own_blk_ne hrr h.tk.tk.wk (by decide) e
  · rcases List.mem_or_eq_of_mem_set hx with hx | rfl
    · exact h.rn x hx b hb
    · rcases hat with e | ⟨k, e, hk2⟩
      · exact h.rn r hrm b (by rw [← e]; exact hb)
      · rw [hb] at e
        cases e
        exact h.tk.tk.pw.fresh _ hk2
theorem tol_set10 (t : Tol) (A : Option Addr) (n cc : Nat) (rep : List Int) : t.cells.toArray.setIfInBounds 10 (.slice A n cc) = (Tol.cells { t with d := { t.d with report := rep }, rA := A, rn := n, rc := cc }).toArray := by
  simp [Tol.cells]
/-- a report is told -/
theorem GivAt.report {w4 : World} {z : Int} {g4 cap4 : Nat} (h : GivAt w c y S K base ow tb wb l rep gb L t W ow1) (hg : W.grownBy w4 (Value.slice t.rA t.rn t.rc).ownBlock) (ho : w4.ownsRow w.heap.size 3 1 (.slice (some ⟨g4, 0, none⟩) (t.rn + 1) cap4) (t.rn + 1) (rep.map (.int .i64) ++ [.int .i64 z])) (hat : some g4 = (Value.slice t.rA t.rn t.rc).ownBlock ∨ W.heap.size ≤ g4) :
    GivAt w c y S K base ow tb wb l (rep ++ [z]) gb L { t with d := { t.d with report := rep ++ [z] }, rA := some ⟨g4, 0, none⟩, rn := t.rn + 1, rc := cap4 } (w4.setCell ⟨tb, 10, none⟩ (.slice (some ⟨g4, 0, none⟩) (t.rn + 1) cap4)) ow1 ∧ Only (fun k => k = tb ∨ (Value.slice t.rA t.rn t.rc).ownBlock = some k) W (w4.setCell ⟨tb, 10, none⟩ (.slice (some ⟨g4, 0, none⟩) (t.rn + 1) cap4)) := by
  have hT := h.tk.tk
  have o1 : Only (fun k => (Value.slice t.rA t.rn t.rc).ownBlock = some k) W w4 := (Only.refl _ W).grown hg (fun g hg _ => hg)
  have o2 : Only (fun k => k = tb) w4 (w4.setCell ⟨tb, 10, none⟩ (.slice (some ⟨g4, 0, none⟩) (t.rn + 1) cap4)) := only_put (Only.refl _ _) _ _
  have o3 : Only (fun k => k = tb ∨ (Value.slice t.rA t.rn t.rc).ownBlock = some k) W (w4.setCell ⟨tb, 10, none⟩ (.slice (some ⟨g4, 0, none⟩) (t.rn + 1) cap4)) := (o1.mono fun x _ h => Or.inr h).trans o2 fun x _ h => Or.inl h
  have k4 : Blk w4 tb 42 t.cells.toArray := hT.tk.only o1 (own_blk_ne hT.own.ro hT.tk (by decide))
  have hD : ∀ k, k < W.heap.size → (k = tb ∨ (Value.slice t.rA t.rn t.rc).ownBlock = some k) → w.heap.size ≤ k ∧ ow1 k = .no := fun k _ hd => by
    rcases hd with rfl | hd
    · exact ⟨hT.tl, hT.tn⟩
    · exact ⟨(hT.rowD (Or.inr (Or.inr rfl)) hd).1.1, (hT.rowD (Or.inr (Or.inr rfl)) hd).2⟩
  have hn : ∀ {e : TypeId} {size n : Nat} {v : Value} {xs : List Value}, W.ownsRow w.heap.size e size v n xs → e ≠ 3 → e ≠ 42 → (w4.setCell ⟨tb, 10, none⟩ (.slice (some ⟨g4, 0, none⟩) (t.rn + 1) cap4)).ownsRow w.heap.size e size v n xs := fun hv h1 h2 =>
    own_only hv o3 fun k hk hd => by
      rcases hd with rfl | hd
      · exact own_blk_ne hv hT.tk h2 hk
      · rcases own_own_ne hv hT.own.ro h1 with e1 | e1
        · rw [e1] at hk; cases hk
        · exact e1 (by rw [hk, hd])
  obtain ⟨hp, hKK⟩ := hT.touch o3 hD
  have hown' : w4.ownsRow w.heap.size 3 1 (.slice (some ⟨g4, 0, none⟩) (t.rn + 1) cap4) (t.rn + 1) ((rep ++ [z]).map (.int .i64)) := by rw [List.map_append]; exact ho
  have hg4 : ∀ k, (Value.slice (some ⟨g4, 0, none⟩) (t.rn + 1) cap4).ownBlock = some k → k = g4 := fun k hk => by simpa [Value.ownBlock] using hk.symm
  refine ⟨⟨⟨⟨hp, hKK, hT.tn, hT.wn, hT.bw, hT.tl, hT.wl, ?_, hT.wk.only o3 (fun hd => ?_), ⟨hn hT.own.so (by decide) (by decide), hn hT.own.fo (by decide) (by decide), own_only hown' o2 (fun k hk e => own_blk_ne ho k4 (by decide) (by rw [hk, e]))⟩, fun v hv k hk => ?_⟩, by dsimp only; rw [h.tk.d]⟩,
    h.giv.only o3 (fun hd => ?_) (fun r hr k hk hd => ?_), h.gn, h.rn, h.gap.to_ h.giv (Nat.le_refl _) (fun k hk => ?_)⟩, o3⟩
  · rw [← tol_set10]
    exact k4.set_ 10 _
  · rcases hd with e | e
    · exact Blk.ne_ hT.wk hT.tk (by decide) e
    · exact own_blk_ne hT.own.ro hT.wk (by decide) e
  · rcases hv with rfl | rfl | rfl
    · exact hT.no _ (Or.inl rfl) k hk
    · exact hT.no _ (Or.inr (Or.inl rfl)) k hk
    · have := hg4 k hk
      subst this
      rcases hat with e | e
      · exact (hT.rowD (Or.inr (Or.inr rfl)) e.symm).2
      · exact hT.pw.fresh _ e
  · rcases hd with e | e
    · exact Blk.ne_ h.giv.blk hT.tk (by decide) e
    · exact own_blk_ne hT.own.ro h.giv.blk (by decide) e
  · rcases hd with rfl | hd
    · exact own_blk_ne (h.giv.rows r hr) hT.tk (by decide) hk
    · exact h.gap r hr k hk hd
  · have := hg4 k hk
    subst this
    rcases hat with e | e
    · exact .inl e.symm
    · exact .inr e
theorem GivAt.send {p : PoD} {e : Ending} (h : GivAt w c y S K base ow tb wb l rep gb L t W ow1) (hp : SendPost w c y (S.posts l) K base ow tb wb t p W ow1 e W') :
    e = .returned (.tuple #[]) ∧ ∃ (t2 : Tol) (ow2 : Nat → Tag), GivAt w c y S K base ow tb wb (l ++ [p]) rep gb L t2 W' ow2 := by
  obtain ⟨rfl, t2, ow2, h1, ⟨h2, h3, h4⟩, h5, h6⟩ := h.tk.send hp
  refine ⟨rfl, t2, ow2, h1, h.giv.only h5 (fun hd => ?_) (fun r hr k hk hd => ?_), (h6 gb h.giv.blk.lt).trans h.gn, fun r hr b hb => (h6 b ((h.giv.rows r hr).lt b hb).2).trans (h.rn r hr b hb), by rw [h2, h3, h4]; exact h.gap⟩
  · rcases hd with e | e | e
    · exact e h.gn
    · exact Blk.ne_ h.giv.blk h.tk.tk.tk (by decide) e
    · exact own_blk_ne h.tk.tk.own.so h.giv.blk (by decide) e
  · rcases hd with e | rfl | e
    · exact e (h.rn r hr k hk)
    · exact own_blk_ne (h.giv.rows r hr) h.tk.tk.tk (by decide) hk
    · rcases own_own_ne h.tk.tk.own.so (h.giv.rows r hr) (by decide) with e1 | e1
      · rw [e1] at e; cases e
      · exact e1 (by rw [e, hk])
end
theorem giv_step {L : List RwI} {n q : Nat} {F G : Nat → List Int} (h : L.map RwI.zs = (List.range n).map fun i => if i < q then G i else F i) (hq : q < n) {z : Int} (hG : G q = F q ++ [z]) :
    ∃ r, L[q]? = some r ∧ r.zs = F q ∧ ∀ v, (L.set q ⟨v, r.zs ++ [z]⟩).map RwI.zs = (List.range n).map fun i => if i < q + 1 then G i else F i := by
  have hl : L.length = n := by have := congrArg List.length h; simpa using this
  have hr : L[q]? = some (L[q]'(by omega)) := List.getElem?_eq_getElem (by omega)
  generalize L[q]'(by omega) = r at hr
  have hz : r.zs = F q := by
    have h2 := congrArg (fun l : List (List Int) => l[q]?) h
    simp [hr, hq] at h2
    exact h2
  refine ⟨r, hr, hz, fun v => ?_⟩
  rw [List.map_set, h]
  refine List.ext_getElem? fun i => ?_
  rw [List.getElem?_set]
  by_cases hi : q = i
  · subst hi
    simp [hq, hz, hG]
  · by_cases hin : i < n
    · have e : (i < q + 1) = (i < q) := propext ⟨fun _ => by omega, fun _ => by omega⟩
      simp [hi, hin, e]
    · simp [hi, hin]
theorem giv_full {L : List RwI} {n : Nat} {F G : Nat → List Int} (h : L.map RwI.zs = (List.range n).map fun i => if i < n then G i else F i) : L.map RwI.zs = (List.range n).map G := by
  rw [h]
  exact List.map_congr_left fun i hi => if_pos (List.mem_range.1 hi)
theorem giv_at {L : List RwI} {n q : Nat} {G : Nat → List Int} (h : L.map RwI.zs = (List.range n).map G) (hq : q < n) : ∃ r, L[q]? = some r ∧ r.zs = G q := by
  have hl : L.length = n := by have := congrArg List.length h; simpa using this
  have hr : L[q]? = some (L[q]'(by omega)) := List.getElem?_eq_getElem (by omega)
  generalize L[q]'(by omega) = r at hr
  have h2 := congrArg (fun l : List (List Int) => l[q]?) h
  simp [hr, hq] at h2
  exact ⟨r, hr, h2⟩
theorem given_len (c : Cfg) (S : WS) (k who : Nat) : (givenTo c S k who).length = k := by simp [givenTo]
section
variable {w W W' : World} {c : Cfg} {y : Lay} {S : WS} {K base tb wb gb : Nat} {ow ow1 : Nat → Tag} {t : Tol} {L : List RwI}
theorem GivAt.fin (h : GivAt w c y (S.aged.rounds c c.m) K base ow tb wb (sendsTo c S.aged c.n ++ grantsTo c S c.n) (reportsTo c S c.m) gb L t W ow1) (ho : Only (fun k => k = tb) W W') : StepPost w c y K base ow (tickW c S) (.returned t.val) W' := by
  have hT := h.tk.tk
  obtain ⟨hp, hk⟩ := hT.touch ho (fun k _ e => ⟨by rw [e]; exact hT.tl, by rw [e]; exact hT.tn⟩)
  have hn : ∀ {e : TypeId} {size n : Nat} {v : Value} {xs : List Value}, W.ownsRow w.heap.size e size v n xs → e ≠ 42 → W'.ownsRow w.heap.size e size v n xs := fun hv h1 => own_only hv ho fun k hk e => own_blk_ne hv hT.tk h1 (by rw [hk, e])
  exact ⟨t, rfl, h.tk.d, ⟨hn hT.own.so (by decide), hn hT.own.fo (by decide), hn hT.own.ro (by decide)⟩, ow1, hp, hk, hT.no⟩
end
end
end Go.Proofs.YtbolcebmbpepdaaDoor
