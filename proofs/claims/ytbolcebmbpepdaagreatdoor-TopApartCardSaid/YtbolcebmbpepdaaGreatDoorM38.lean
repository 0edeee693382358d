/- Contracts and plain facts, set together by program out of smaller texts. Conditions: none beyond what each theorem states. -/
import Derived.Test.YtbolcebmbpepdaaGreatDoorM37
namespace Go.Proofs.YtbolcebmbpepdaaGreatDoor
set_option linter.unusedVariables false
section
open Go.RowKit
structure GivAt (w : World) (c : Cfg) (y : Lay) (S : WS) (K base : Nat) (ow : Nat → Tag) (tb wb : Nat) (l : List PoD) (rep : List Int) (gb : Nat) (L : List RwI) (t : Tol) (W : World) (ow1 : Nat → Tag) : Prop where
 tk : TickAt w c y S K base ow tb wb l rep t W ow1
 giv : GivA W w.heap.size gb L
 gn : ow1 gb = .no
 rn : ∀ r ∈ L, ∀ b, r.v.ownBlock = some b → ow1 b = .no
 gap : Gap L (.slice t.rA t.rn t.rc)
section
variable {w W W' : World} {c : Cfg} {y : Lay} {S S' : WS} {K base tb wb gb : Nat} {ow ow1 ow2 : Nat → Tag} {t : Tol} {l : List PoD} {rep : List Int} {L : List RwI}
theorem zWy (S : WS) (c : Cfg) : S.rounds c 0 = S := by
 show WS.mk _ _ _ _ _ _ _ _ = S
 simp
theorem rounds_succ (S : WS) (c : Cfg) (k : Nat) : S.rounds c (k + 1) = { S.rounds c k with bk := upd1 (S.rounds c k).bk k (zBj c.cap c.tk (S.bk k)).1 } := by
 have h : (S.rounds c (k + 1)).bk = upd1 (S.rounds c k).bk k (zBj c.cap c.tk (S.bk k)).1 := by
  funext j
  rw [zCe]
  show (if j < k + 1 then (zBj c.cap c.tk (S.bk j)).1 else S.bk j) = if j = k then _ else (if j < k then (zBj c.cap c.tk (S.bk j)).1 else S.bk j)
  by_cases h1 : j = k
  ·subst h1; rw [if_pos (by omega), if_pos rfl]
  ·rw [if_neg h1]
   by_cases h2 : j < k
   ·rw [if_pos (by omega), if_pos h2]
   ·rw [if_neg (by omega), if_neg h2]
 show WS.mk _ _ _ _ _ _ _ _ = _
 rw [← h]
 rfl
theorem GivAt.turn (h : GivAt w c y S K base ow tb wb l rep gb L t W ow1) (hp : PW W' c y (S'.posts l) K base ow2) (hk : Kept W W' ow1 ow2) (hS : S'.lts = S.lts) : GivAt w c y S' K base ow tb wb l rep gb L t W' ow2 := by
 refine ⟨⟨h.tk.tk.turn hp hk, by rw [h.tk.d, hS]⟩, h.giv.only hk.only (fun e => e h.gn) (fun r hr k hk2 e => e (h.rn r hr k hk2)), (hk.old gb h.giv.blk.lt).trans h.gn, fun r hr b hb => (hk.old b ((h.giv.rows r hr).lt b hb).2).trans (h.rn r hr b hb), h.gap⟩
theorem GivAt.calm (h : GivAt w c y S K base ow tb wb l rep gb L t W ow1) (hb : Below W.heap.size W W') : GivAt w c y S K base ow tb wb l rep gb L t W' ow1 :=
 h.turn (h.tk.tk.pw.calm hb) (Kept.calm hb) rfl
theorem GivAt.push {w4 : World} {i : Nat} {r r' : RwI} (h : GivAt w c y S K base ow tb wb l rep gb L t W ow1) (hi : L[i]? = some r) (hg : W.grownBy w4 r.v.ownBlock) (ho : w4.ownsRow w.heap.size 3 1 r'.v r'.zs.length (r'.zs.map (.int .i64))) (hat : r'.v.ownBlock = r.v.ownBlock ∨ ∃ k, r'.v.ownBlock = some k ∧ W.heap.size ≤ k) :
    GivAt w c y S K base ow tb wb l rep gb (L.set i r') t (w4.setCell ⟨gb, i, none⟩ r'.v) ow1 ∧ Only (fun k => k = gb ∨ r.v.ownBlock = some k) W (w4.setCell ⟨gb, i, none⟩ r'.v) := by
 have hrm := List.mem_of_getElem? hi
 have hrr := h.giv.rows r hrm
 have o1 : Only (fun k => r.v.ownBlock = some k) W w4 := (Only.refl _ W).grown hg (fun g hg _ => hg)
 have o2 : Only (fun k => k = gb) w4 (w4.setCell ⟨gb, i, none⟩ r'.v) := zAg (Only.refl _ _) _ _
 have o3 : Only (fun k => k = gb ∨ r.v.ownBlock = some k) W (w4.setCell ⟨gb, i, none⟩ r'.v) := (o1.mono fun x _ h => Or.inr h).trans o2 fun x _ h => Or.inl h
 have hD : ∀ k, k < W.heap.size → (k = gb ∨ r.v.ownBlock = some k) → w.heap.size ≤ k ∧ ow1 k = .no := fun k _ hd => by
  rcases hd with rfl | hd
  ·exact ⟨h.giv.low, h.gn⟩
  ·exact ⟨(hrr.lt k hd).1, h.rn r hrm k hd⟩
 obtain ⟨hp, hKK⟩ := h.tk.tk.touch o3 hD
 have hn : ∀ {e : TypeId} {size n : Nat} {v : Value} {xs : List Value}, W.ownsRow w.heap.size e size v n xs → e ≠ 22 → (e ≠ 3 ∨ ∀ k, r.v.ownBlock = some k → v.ownBlock ≠ some k) → (w4.setCell ⟨gb, i, none⟩ r'.v).ownsRow w.heap.size e size v n xs := fun hv h1 h2 =>
  zAk hv o3 fun k hk hd => by
   rcases hd with rfl | hd
   ·exact zAe hv h.giv.blk h1 hk
   ·rcases h2 with h2 | h2
    ·rcases zDs hv hrr h2 with e1 | e1
     ·rw [e1] at hk; cases hk
     ·exact e1 (by rw [hk, hd])
    ·exact h2 k hd hk
 refine ⟨⟨⟨⟨hp, hKK, h.tk.tk.tn, h.tk.tk.wn, h.tk.tk.bw, h.tk.tk.tl, h.tk.tk.wl, h.tk.tk.tk.only o3 (fun hd => ?_), h.tk.tk.wk.only o3 (fun hd => ?_), ⟨hn h.tk.tk.own.so (by decide) (.inl (by decide)), hn h.tk.tk.own.fo (by decide) (.inl (by decide)), hn h.tk.tk.own.ro (by decide) (.inr fun k hk => h.gap r hrm k hk)⟩, h.tk.tk.no⟩, h.tk.d⟩, h.giv.push hi hg ho hat, h.gn, fun x hx b hb => ?_, h.gap.set_ hi hat (fun k hk => (h.tk.tk.own.ro.lt k hk).2)⟩, o3⟩
 ·rcases hd with e | e
  ·exact Blk.ne_ h.tk.tk.tk h.giv.blk (by decide) e
  ·exact zAe hrr h.tk.tk.tk (by decide) e
 ·rcases hd with e | e
  ·exact Blk.ne_ h.tk.tk.wk h.giv.blk (by decide) e
  ·exact zAe hrr h.tk.tk.wk (by decide) e
 ·rcases List.mem_or_eq_of_mem_set hx with hx | rfl
  ·exact h.rn x hx b hb
  ·rcases hat with e | ⟨k, e, hk2⟩
   ·exact h.rn r hrm b (by rw [← e]; exact hb)
   ·rw [hb] at e
    cases e
    exact h.tk.tk.pw.fresh _ hk2
theorem yDr (t : Tol) (A : Option Addr) (n cc : Nat) (rep : List Int) : t.cells.toArray.setIfInBounds 10 (.slice A n cc) = (Tol.cells { t with d := { t.d with report := rep }, rA := A, rn := n, rc := cc }).toArray := by
 simp [Tol.cells]
theorem GivAt.report {w4 : World} {z : Int} {g4 cap4 : Nat} (h : GivAt w c y S K base ow tb wb l rep gb L t W ow1) (hg : W.grownBy w4 (Value.slice t.rA t.rn t.rc).ownBlock) (ho : w4.ownsRow w.heap.size 3 1 (.slice (some ⟨g4, 0, none⟩) (t.rn + 1) cap4) (t.rn + 1) (rep.map (.int .i64) ++ [.int .i64 z])) (hat : some g4 = (Value.slice t.rA t.rn t.rc).ownBlock ∨ W.heap.size ≤ g4) :
    GivAt w c y S K base ow tb wb l (rep ++ [z]) gb L { t with d := { t.d with report := rep ++ [z] }, rA := some ⟨g4, 0, none⟩, rn := t.rn + 1, rc := cap4 } (w4.setCell ⟨tb, 10, none⟩ (.slice (some ⟨g4, 0, none⟩) (t.rn + 1) cap4)) ow1 ∧ Only (fun k => k = tb ∨ (Value.slice t.rA t.rn t.rc).ownBlock = some k) W (w4.setCell ⟨tb, 10, none⟩ (.slice (some ⟨g4, 0, none⟩) (t.rn + 1) cap4)) := by
 have hT := h.tk.tk
 have o1 : Only (fun k => (Value.slice t.rA t.rn t.rc).ownBlock = some k) W w4 := (Only.refl _ W).grown hg (fun g hg _ => hg)
 have o2 : Only (fun k => k = tb) w4 (w4.setCell ⟨tb, 10, none⟩ (.slice (some ⟨g4, 0, none⟩) (t.rn + 1) cap4)) := zAg (Only.refl _ _) _ _
 have o3 : Only (fun k => k = tb ∨ (Value.slice t.rA t.rn t.rc).ownBlock = some k) W (w4.setCell ⟨tb, 10, none⟩ (.slice (some ⟨g4, 0, none⟩) (t.rn + 1) cap4)) := (o1.mono fun x _ h => Or.inr h).trans o2 fun x _ h => Or.inl h
 have k4 : Blk w4 tb 57 t.cells.toArray := hT.tk.only o1 (zAe hT.own.ro hT.tk (by decide))
 have hD : ∀ k, k < W.heap.size → (k = tb ∨ (Value.slice t.rA t.rn t.rc).ownBlock = some k) → w.heap.size ≤ k ∧ ow1 k = .no := fun k _ hd => by
  rcases hd with rfl | hd
  ·exact ⟨hT.tl, hT.tn⟩
  ·exact ⟨(hT.rowD (Or.inr (Or.inr rfl)) hd).1.1, (hT.rowD (Or.inr (Or.inr rfl)) hd).2⟩
 have hn : ∀ {e : TypeId} {size n : Nat} {v : Value} {xs : List Value}, W.ownsRow w.heap.size e size v n xs → e ≠ 3 → e ≠ 57 → (w4.setCell ⟨tb, 10, none⟩ (.slice (some ⟨g4, 0, none⟩) (t.rn + 1) cap4)).ownsRow w.heap.size e size v n xs := fun hv h1 h2 =>
  zAk hv o3 fun k hk hd => by
   rcases hd with rfl | hd
   ·exact zAe hv hT.tk h2 hk
   ·rcases zDs hv hT.own.ro h1 with e1 | e1
    ·rw [e1] at hk; cases hk
    ·exact e1 (by rw [hk, hd])
 obtain ⟨hp, hKK⟩ := hT.touch o3 hD
 have hown' : w4.ownsRow w.heap.size 3 1 (.slice (some ⟨g4, 0, none⟩) (t.rn + 1) cap4) (t.rn + 1) ((rep ++ [z]).map (.int .i64)) := by rw [List.map_append]; exact ho
 have hg4 : ∀ k, (Value.slice (some ⟨g4, 0, none⟩) (t.rn + 1) cap4).ownBlock = some k → k = g4 := fun k hk => by simpa [Value.ownBlock] using hk.symm
 refine ⟨⟨⟨⟨hp, hKK, hT.tn, hT.wn, hT.bw, hT.tl, hT.wl, ?_, hT.wk.only o3 (fun hd => ?_), ⟨hn hT.own.so (by decide) (by decide), hn hT.own.fo (by decide) (by decide), zAk hown' o2 (fun k hk e => zAe ho k4 (by decide) (by rw [hk, e]))⟩, fun v hv k hk => ?_⟩, by dsimp only; rw [h.tk.d]⟩,
  h.giv.only o3 (fun hd => ?_) (fun r hr k hk hd => ?_), h.gn, h.rn, h.gap.to_ h.giv (Nat.le_refl _) (fun k hk => ?_)⟩, o3⟩
 ·rw [← yDr]
  exact k4.set_ 10 _
 ·rcases hd with e | e
  ·exact Blk.ne_ hT.wk hT.tk (by decide) e
  ·exact zAe hT.own.ro hT.wk (by decide) e
 ·rcases hv with rfl | rfl | rfl
  ·exact hT.no _ (Or.inl rfl) k hk
  ·exact hT.no _ (Or.inr (Or.inl rfl)) k hk
  ·have := hg4 k hk
   subst this
   rcases hat with e | e
   ·exact (hT.rowD (Or.inr (Or.inr rfl)) e.symm).2
   ·exact hT.pw.fresh _ e
 ·rcases hd with e | e
  ·exact Blk.ne_ h.giv.blk hT.tk (by decide) e
  ·exact zAe hT.own.ro h.giv.blk (by decide) e
 ·rcases hd with rfl | hd
  ·exact zAe (h.giv.rows r hr) hT.tk (by decide) hk
  ·exact h.gap r hr k hk hd
 ·have := hg4 k hk
  subst this
  rcases hat with e | e
  ·exact .inl e.symm
  ·exact .inr e
theorem GivAt.send {p : PoD} {e : Ending} (h : GivAt w c y S K base ow tb wb l rep gb L t W ow1) (hp : zPd w c y (S.posts l) K base ow tb wb t p W ow1 e W') :
    e = .returned (.tuple #[]) ∧ ∃ (t2 : Tol) (ow2 : Nat → Tag), GivAt w c y S K base ow tb wb (l ++ [p]) rep gb L t2 W' ow2 := by
 obtain ⟨rfl, t2, ow2, h1, ⟨h2, h3, h4⟩, h5, h6⟩ := h.tk.send hp
 refine ⟨rfl, t2, ow2, h1, h.giv.only h5 (fun hd => ?_) (fun r hr k hk hd => ?_), (h6 gb h.giv.blk.lt).trans h.gn, fun r hr b hb => (h6 b ((h.giv.rows r hr).lt b hb).2).trans (h.rn r hr b hb), by rw [h2, h3, h4]; exact h.gap⟩
 ·rcases hd with e | e | e
  ·exact e h.gn
  ·exact Blk.ne_ h.giv.blk h.tk.tk.tk (by decide) e
  ·exact zAe h.tk.tk.own.so h.giv.blk (by decide) e
 ·rcases hd with e | rfl | e
  ·exact e (h.rn r hr k hk)
  ·exact zAe (h.giv.rows r hr) h.tk.tk.tk (by decide) hk
  ·rcases zDs h.tk.tk.own.so (h.giv.rows r hr) (by decide) with e1 | e1
   ·rw [e1] at e; cases e
   ·exact e1 (by rw [e, hk])
end
theorem giv_step {L : List RwI} {n q : Nat} {F G : Nat → List Int} (h : L.map RwI.zs = (List.range n).map fun i => if i < q then G i else F i) (hq : q < n) {z : Int} (hG : G q = F q ++ [z]) :
    ∃ r, L[q]? = some r ∧ r.zs = F q ∧ ∀ v, (L.set q ⟨v, r.zs ++ [z]⟩).map RwI.zs = (List.range n).map fun i => if i < q + 1 then G i else F i := by
 have hl : L.length = n := by have := congrArg List.length h; simpa using this
 have hr : L[q]? = some (L[q]'(by omega)) := List.getElem?_eq_getElem (by omega)
 generalize L[q]'(by omega) = r at hr
 have hz : r.zs = F q := by
  have h2 := congrArg (fun l : List (List Int) => l[q]?) h
  simp [hr, hq] at h2
  exact h2
 refine ⟨r, hr, hz, fun v => ?_⟩
 rw [List.map_set, h]
 refine List.ext_getElem? fun i => ?_
 rw [List.getElem?_set]
 by_cases hi : q = i
 ·subst hi
  simp [hq, hz, hG]
 ·by_cases hin : i < n
  ·have e : (i < q + 1) = (i < q) := propext ⟨fun _ => by omega, fun _ => by omega⟩
   simp [hi, hin, e]
  ·simp [hi, hin]
theorem giv_full {L : List RwI} {n : Nat} {F G : Nat → List Int} (h : L.map RwI.zs = (List.range n).map fun i => if i < n then G i else F i) : L.map RwI.zs = (List.range n).map G := by
 rw [h]
 exact List.map_congr_left fun i hi => if_pos (List.mem_range.1 hi)
theorem giv_at {L : List RwI} {n q : Nat} {G : Nat → List Int} (h : L.map RwI.zs = (List.range n).map G) (hq : q < n) : ∃ r, L[q]? = some r ∧ r.zs = G q := by
 have hl : L.length = n := by have := congrArg List.length h; simpa using this
 have hr : L[q]? = some (L[q]'(by omega)) := List.getElem?_eq_getElem (by omega)
 generalize L[q]'(by omega) = r at hr
 have h2 := congrArg (fun l : List (List Int) => l[q]?) h
 simp [hr, hq] at h2
 exact ⟨r, hr, h2⟩
theorem yEh (c : Cfg) (S : WS) (k who : Nat) : (zBq c S k who).length = k := by simp [zBq]
section
variable {w W W' : World} {c : Cfg} {y : Lay} {S : WS} {K base tb wb gb : Nat} {ow ow1 : Nat → Tag} {t : Tol} {L : List RwI}
theorem GivAt.fin (h : GivAt w c y (S.aged.rounds c c.m) K base ow tb wb (zAx c S.aged c.n ++ zBs c S c.n) (zBh c S c.m) gb L t W ow1) (ho : Only (fun k => k = tb) W W') : zBo w c y K base ow (zGj c S) (.returned t.val) W' := by
 have hT := h.tk.tk
 obtain ⟨hp, hk⟩ := hT.touch ho (fun k _ e => ⟨by rw [e]; exact hT.tl, by rw [e]; exact hT.tn⟩)
 have hn : ∀ {e : TypeId} {size n : Nat} {v : Value} {xs : List Value}, W.ownsRow w.heap.size e size v n xs → e ≠ 57 → W'.ownsRow w.heap.size e size v n xs := fun hv h1 => zAk hv ho fun k hk e => zAe hv hT.tk h1 (by rw [hk, e])
 exact ⟨t, rfl, h.tk.d, ⟨hn hT.own.so (by decide), hn hT.own.fo (by decide), hn hT.own.ro (by decide)⟩, ow1, hp, hk, hT.no⟩
end
end
section
open Go.RowKit
section
variable {w : World} {c : Cfg} {y : Lay} {S : WS} {K base : Nat} {ow : Nat → Tag}
set_option maxRecDepth 1000000 in
set_option maxHeartbeats 3000000 in
theorem tick_any (h : PW w c y S K base ow) (N : Nat) (hS : S.ok c N) (hN : N ≤ 10000) :
    Calls Tryz.prog 63 #[.pointer (some ⟨y.hb, 0, none⟩)] w (zBo w c y K base ow (zGj c S)) := by
 obtain ⟨⟨hn, hn1, hn8⟩, hln, htk, hm3, hcap, hla, hmi⟩ := zAj h.may
 obtain ⟨wb, hwb⟩ : ∃ p, p = w.heap.size := ⟨_, rfl⟩
 obtain ⟨tb, htb⟩ : ∃ q, q = w.heap.size + 1 := ⟨_, rfl⟩
 obtain ⟨wx, hwx⟩ : ∃ wx, wx = (w.alloc (.cells #[.pointer (some ⟨y.hb, 0, none⟩)] 60)).alloc (.cells (tol0 0 0).cells.toArray 57) := ⟨_, rfl⟩
 have hbx : Below w.heap.size w wx := by rw [hwx]; exact ((Below.refl _ _).alloc (Nat.le_refl _) _).alloc (by simp) _
 have kw : Blk wx wb 60 #[.pointer (some ⟨y.hb, 0, none⟩)] := by rw [hwx, hwb]; exact (Blk.new w _ _).alloc _
 have kt : Blk wx tb 57 (tol0 0 0).cells.toArray := by
  have h1 := Blk.new (w.alloc (.cells #[.pointer (some ⟨y.hb, 0, none⟩)] 60)) 57 (tol0 0 0).cells.toArray
  rw [hwx, htb]
  simpa using h1
 have hT : TkA w c y (S.tkTo c.m 0 0) K base ow tb wb (tol0 0 0) wx ow := by
  rw [yBs]
  exact ⟨h.calm hbx, Kept.calm hbx, h.fresh _ (by omega), h.fresh _ (by omega), h.bw, by omega, by omega, kt, kw, zGy _ _ _ _, zIg _ _ _⟩
 have HT := hide hT
 have w0 := hT.w0
 have h5 := hT.h5
 have HS := hide hS
 have HWX := hide hwx
 have HTB := hide htb
 have HWB := hide hwb
 have HLA := hide hla
 have HN := hide hn
 have HMI := hide hmi
 have HTK := hide htk
 have HLN := hide hln
 have HCP := hide hcap
 have HH := hide h
 clear hT hS hwx hbx kw kt hwb htb hn hla hmi htk hln hcap h
 obtain ⟨iL, hiL, zL, hzL, hcL, hsL, hyL⟩ : ∃ i, Tryz.prog.info? 22 = some i ∧ ∃ z, i.zero = some z ∧ z.cells.toList = [Value.slice none 0 0] ∧ i.size = 1 ∧ i.bytes = 24 := zGq (by kernel_rfl)
 obtain ⟨iI, hiI, hzI, hsI, hyI⟩ : ∃ i, Tryz.prog.info? 3 = some i ∧ i.zero = some (.int .i64 0) ∧ i.size = 1 ∧ i.bytes = 8 := zEm (by kernel_rfl)
 have hmk := fun W => zDn (P := Tryz.prog) 87 22 iL _ Tryz.underlying87 hiL hzL .i64 .i64 c.n c.n (Nat.le_refl _) (by rw [hyL]; omega) (by omega) W
 rw [hsL, Nat.mul_one, zPh c.n zL.cells hcL] at hmk
 have HMK := hide hmk
 clear hmk
 go_enter Tryz.func63, Tryz.ntmps63
 go_upto_region 2 with fail
 rw [show (#[.int .i64 0, .int .i64 0, .int .i64 0, .int .i64 0, .int .i64 0, .int .i64 0, .int .i64 0, .int .i64 0, .slice none 0 0, .slice none 0 0, .slice none 0 0] : Array Value) = (tol0 0 0).cells.toArray from rfl, ← zAa HWX, ← zAa HTB, ← zAa HWB]
 go_wp2_with fail
 go_loopw [31] (fun i wr => ∃ (a : Nat) (ow1 : Nat → Tag), a ≤ c.n ∧ i = .int .i64 a ∧ Hid (TkA w c y (S.tkTo c.m a 0) K base ow tb wb (tol0 0 0) wr ow1)) (fun i _ => c.n - (intOf i).toNat)
 case atStart => exact ⟨0, ow, Nat.zero_le _, rfl, HT⟩
 case round =>
  obtain ⟨a, ow1, ha, rfl, HA⟩ := hrel
  by_cases hlt : a < c.n
  ·have hlt' : (a : Int) < (c.n : Int) := by omega
   have b0 := (zAa HA).br hlt
   have d0 := (zAa HA).s0 hlt
   clear w0 h5
   go_wp2_with fail
   go_loopw [40] (fun i wr => ∃ (b : Nat) (ow1 : Nat → Tag), b ≤ c.m ∧ i = .int .i64 b ∧ Hid (TkA w c y (S.tkTo c.m a b) K base ow tb wb (tol0 0 0) wr ow1)) (fun i _ => c.m - (intOf i).toNat)
   case atStart => exact ⟨0, ow1, Nat.zero_le _, rfl, HA⟩
   case round =>
    obtain ⟨b, ow2, hb, rfl, HB⟩ := hrel
    by_cases hltb : b < c.m
    ·have hltb' : (b : Int) < (c.m : Int) := by omega
     clear b0 d0
     have d0 := (zAa HB).s0 hlt
     have HDO := hide (zJn (ow := ow2) zHo a b (zAa HB).pw hlt hltb N (by have := (zAa HS).sh a b; show (if _ then _ else _ : Shf).ok _; rw [if_neg (by omega)]; exact this) (by omega))
     unfold zHo Ordr.val at HDO
     dsimp only at HDO
     go_wp2_with fail
     refine (zAa HDO).mono ?_
     rintro _ w3 ⟨rfl, ow3, hp3, hk3⟩
     have h3 := (zAa HB).turn hp3 hk3
     have HC := hide h3
     clear hp3 hk3 h3 d0
     go_wp2_with fail
     go_roundw
     case rel => exact ⟨b + 1, ow3, by omega, by go_num, by have e := yDf S c.m a b; unfold zHo at e; rw [e]; exact HC⟩
     case measure => simp [intOf]; omega
    ·obtain rfl : b = c.m := by omega
     go_wp2_with fail
     go_roundw
     case rel => exact ⟨a + 1, ow2, by omega, by go_num, by rw [← tkTo_row]; exact HB⟩
     case measure => simp [intOf]; omega
  ·obtain rfl : a = c.n := by omega
   have hA1 : TkA w c y S.aged K base ow tb wb (tol0 0 0) wr ow1 := (zAa HA).turn (zAa HA).pw.aged (Kept.refl _ _)
   have HA1 := hide hA1
   clear HA HT w0 h5
   have w0 := hA1.w0
   have h5 := hA1.h5
   clear hA1
   go_wp2_with fail
   go_loopw [58] (fun i wr => ∃ (a : Nat) (t : Tol) (ow1 : Nat → Tag), a ≤ c.n ∧ i = .int .i64 a ∧ Hid (TickAt w c y S.aged K base ow tb wb (zAx c S.aged a) [] t wr ow1)) (fun i _ => c.n - (intOf i).toNat)
   case atStart => exact ⟨0, tol0 0 0, ow1, Nat.zero_le _, rfl, hide ⟨by rw [show zAx c S.aged 0 = [] from rfl, yDa]; exact zAa HA1, rfl⟩⟩
   case round =>
    obtain ⟨a, t, ow2, ha, rfl, HB⟩ := hrel
    have hHl : (zAx c S.aged a).length ≤ 8 * a := zIr c S.aged hn8 a ha
    have HHL := hide hHl
    clear hHl
    by_cases hlt : a < c.n
    ·have hlt' : (a : Int) < (c.n : Int) := by omega
     have b0 := (zAa HB).tk.br hlt
     clear w0 h5
     go_upto_region 14 with fail
     clear b0
     go_cut [9] (fun s9 W => Hid (∃ ow', TickAt w c y S.aged K base ow tb wb (zAx c S.aged a) [] t W ow' ∧ BytCut (zCa c (S.ask a)).1 W s9))
     case first =>
      have hB := (zAa HB).tk
      have hcb := (hB.pw.pc .con).blk
      have e0 := fun m : Ext wr => m.cell (show wr.cell? ⟨y.hb, 0, none⟩ = some (.int .i64 c.br) from hcb.cell 0)
      have e1 := fun m : Ext wr => m.cell (show wr.cell? ⟨y.hb, 1, none⟩ = some (.slice c.la.A c.la.n c.la.c) from hcb.cell 1)
      have e2 := fun m : Ext wr => m.cell (show wr.cell? ⟨y.hb, 2, none⟩ = some (.int .i64 c.tk) from hcb.cell 2)
      have e3 := fun m : Ext wr => m.cell (show wr.cell? ⟨y.hb, 3, none⟩ = some (.slice c.mi.A c.mi.n c.mi.c) from hcb.cell 3)
      have e4 := fun m : Ext wr => m.cell (show wr.cell? ⟨y.hb, 4, none⟩ = some (.int .i64 c.cap) from hcb.cell 4)
      have e5 := fun m : Ext wr => m.cell hB.w0
      have e6 := fun m : Ext wr => m.cell (hB.s1 hlt)
      have hask := hB.asks hlt ((zAa HS).ask a).1
      have HAK := hide (fun W (hW : Below wr.heap.size wr W) => zVa c ⟨some ⟨(y.br a).a, 0, none⟩, c.m, c.m, S.ask a⟩ W.heap.size W ((hB.calm hW).pw.cfg.more (hB.calm hW).pw.bw) ((hask.below hW).more hW.size) (Nat.le_refl _))
      clear hB hcb
      unfold Cfg.val zHa at HAK
      dsimp only at HAK
      clear hask
      refine zBt [0, 1, 2, 3, 4, 5, 6, 7] [8, 9, 10, 11, 12, 13] (zGv 8) (by kernel_rfl) (by kernel_rfl) (by intro c a d v w h; cases d <;> exact h) ?_
      simp only [zAb, List.map_cons, List.map_nil, List.getD_cons_zero, List.getD_cons_succ]
      repeat (go_big_quiet_step (fail))
      refine wpQuiet_nil ?_
      clear e0 e1 e2 e3 e4 e5 e6
      have hd0 : Below wr.heap.size wr wr.drew := (Below.refl _ wr).drew
      generalize wr.drew = wd at hd0 ⊢
      unfold zGv
      refine zAc fun K0 hK0 => ?_
      simp only [zAb, List.map_cons, List.map_nil, List.getD_cons_zero, List.getD_cons_succ]
      go_wp2_with fail
      refine (zAa HAK wd hd0).mono ?_
      rintro _ w5 ⟨v5, rfl, ho5, hb5⟩
      have hd5 := hd0.trans (hb5.mono hd0.size)
      have hB5 := (zAa HB).calm hd5
      have HCUT := hide (show Hid (∃ ow', TickAt w c y S.aged K base ow tb wb (zAx c S.aged a) [] t w5 ow' ∧ BytCut (zCa c (S.ask a)).1 w5 v5) from hide ⟨_, hB5, BytCut.of ho5⟩)
      clear ho5 hb5 hB5 hd0 HAK
      go_wp2_with fail
      refine hK0 _ w5 (fun _ => ⟨⟨_, hd5⟩, rfl⟩) ?_
      clear hK0 K0
      repeat' (first
       | (refine zAm ?_ ?_)
       | (refine zBg ?_; go_wp2_with (fail); go_meet; exact zAa HCUT)
       | (refine zAc fun K0 hK0 => ?_; simp only [zAb, List.map_cons, List.map_nil, List.getD_cons_zero, List.getD_cons_succ]; go_wp2_with (fail); refine hK0 _ w5 (fun _ => ⟨⟨_, hd5⟩, rfl⟩) ?_; clear hK0 K0))
     case rest =>
      obtain ⟨ow3, hC, A, n, cc, B, rfl, hdl, hr⟩ := zAa hcut
      have HC := hide hC
      have hnl := zKj c (S.ask a) hm3.2
      have HSE := hide (fun er => zJp hC.tk (show (S.lts ++ _).length ≤ 1000000 by rw [List.length_append]; have := (zAa HS).len; have := zAa HHL; omega) a c.n er A n cc (zCa c (S.ask a)).1 wc.heap.size hdl (by omega) (Reads.of_own hr) (Nat.le_refl _) (WalkArith.wf_i64 (by omega)) (WalkArith.wf_i64 (by omega)) (by have := hC.sn; have := zAa HHL; omega))
      have w0 := hC.tk.w0
      have h0 := hC.tk.h0
      rw [zAa HN] at h0
      clear hC hr hdl hnl
      go_wp2_with fail
      refine (zAa HSE _).mono ?_
      rintro _ w3 hp
      obtain ⟨rfl, t3, ow4, h3, _⟩ := (zAa HC).send hp
      have H3 := hide h3
      clear hp w0 h0 HSE HC
      have w0 := h3.tk.w0
      have h5 := h3.tk.h5
      clear h3
      go_wp2_with fail
      go_loopw [90] (fun i wr => ∃ (b : Nat) (t : Tol) (ow1 : Nat → Tag), b ≤ c.n ∧ i = .int .i64 b ∧ Hid (TickAt w c y S.aged K base ow tb wb (zAx c S.aged a ++ (⟨a, c.n, (zCa c (S.ask a)).1⟩ :: zDx c S.aged a b)) [] t wr ow1)) (fun i _ => c.n - (intOf i).toNat)
      case atStart => exact ⟨0, t3, ow4, Nat.zero_le _, rfl, H3⟩
      case round =>
       obtain ⟨b, t, ow5, hb, rfl, HB⟩ := hrel
       have HRL := hide (rums_len c S.aged a b)
       by_cases hltb : b < c.n
       ·have hltb' : (b : Int) < (c.n : Int) := by omega
        have hsu := zXk c S.aged a b
        clear w0 h5
        by_cases hba : b = a
        ·subst hba
         rw [if_pos rfl] at hsu
         have HSU := hide hsu
         clear hsu
         have hne : ((b : Int) != (b : Int)) = false := by simp
         go_wp2_with fail
         go_roundw
         case rel => exact ⟨b + 1, t, ow5, by omega, by go_num, by rw [zAa HSU]; exact HB⟩
         case measure => simp [intOf]; omega
        ·rw [if_neg hba] at hsu
         have HSU := hide hsu
         clear hsu
         have hne : ((b : Int) != (a : Int)) = true := by simp; omega
         go_upto_region 20 with fail
         go_cut [12] (fun s12 W => Hid (∃ ow', TickAt w c y S.aged K base ow tb wb (zAx c S.aged a ++ (⟨a, c.n, (zCa c (S.ask a)).1⟩ :: zDx c S.aged a b)) [] t W ow' ∧ BytCut (zAv c a b (S.st a)).1 W s12))
         case first =>
          have hB := (zAa HB).tk
          have hcb := (hB.pw.pc .con).blk
          have e0 := fun m : Ext wr => m.cell (show wr.cell? ⟨y.hb, 0, none⟩ = some (.int .i64 c.br) from hcb.cell 0)
          have e1 := fun m : Ext wr => m.cell (show wr.cell? ⟨y.hb, 1, none⟩ = some (.slice c.la.A c.la.n c.la.c) from hcb.cell 1)
          have e2 := fun m : Ext wr => m.cell (show wr.cell? ⟨y.hb, 2, none⟩ = some (.int .i64 c.tk) from hcb.cell 2)
          have e3 := fun m : Ext wr => m.cell (show wr.cell? ⟨y.hb, 3, none⟩ = some (.slice c.mi.A c.mi.n c.mi.c) from hcb.cell 3)
          have e4 := fun m : Ext wr => m.cell (show wr.cell? ⟨y.hb, 4, none⟩ = some (.int .i64 c.cap) from hcb.cell 4)
          have e5 := fun m : Ext wr => m.cell hB.w0
          have e6 := fun m : Ext wr => m.cell (hB.s3 hlt)
          obtain ⟨T, hT1, hT2, hT3⟩ := hB.tab hlt ((zAa HS).st a).1
          have HAK := hide (fun W (hW : Below wr.heap.size wr W) => yAc c a b T W.heap.size W ((hB.calm hW).pw.cfg.more (hB.calm hW).pw.bw) ((hT2.below hW).more hW.size) (Nat.le_refl _))
          clear hB hcb
          rw [hT1, hT3] at HAK
          unfold Cfg.val zIb at HAK
          clear hT1 hT2 hT3 T
          refine zBt [0, 1, 2, 3, 4, 5, 6, 7, 8, 9] [10, 11, 12, 13, 14, 15] (zGv 10) (by kernel_rfl) (by kernel_rfl) (by intro c a d v w h; cases d <;> exact h) ?_
          simp only [zAb, List.map_cons, List.map_nil, List.getD_cons_zero, List.getD_cons_succ]
          repeat (go_big_quiet_step (fail))
          refine wpQuiet_nil ?_
          clear e0 e1 e2 e3 e4 e5 e6
          have hd0 : Below wr.heap.size wr wr.drew := (Below.refl _ wr).drew
          generalize wr.drew = wd at hd0 ⊢
          unfold zGv
          refine zAc fun K0 hK0 => ?_
          simp only [zAb, List.map_cons, List.map_nil, List.getD_cons_zero, List.getD_cons_succ]
          go_wp2_with fail
          refine (zAa HAK wd hd0).mono ?_
          rintro _ w5 ⟨v5, rfl, ho5, hb5⟩
          have hd5 := hd0.trans (hb5.mono hd0.size)
          have hB5 := (zAa HB).calm hd5
          have HCUT := hide (show Hid (∃ ow', TickAt w c y S.aged K base ow tb wb (zAx c S.aged a ++ (⟨a, c.n, (zCa c (S.ask a)).1⟩ :: zDx c S.aged a b)) [] t w5 ow' ∧ BytCut (zAv c a b (S.st a)).1 w5 v5) from hide ⟨_, hB5, BytCut.of ho5⟩)
          clear ho5 hb5 hB5 hd0 HAK
          go_wp2_with fail
          refine hK0 _ w5 (fun _ => ⟨⟨_, hd5⟩, rfl⟩) ?_
          clear hK0 K0
          repeat' (first
           | (refine zAm ?_ ?_)
           | (refine zBg ?_; go_wp2_with (fail); go_meet; exact zAa HCUT)
           | (refine zAc fun K0 hK0 => ?_; simp only [zAb, List.map_cons, List.map_nil, List.getD_cons_zero, List.getD_cons_succ]; go_wp2_with (fail); refine hK0 _ w5 (fun _ => ⟨⟨_, hd5⟩, rfl⟩) ?_; clear hK0 K0))
         case rest =>
          obtain ⟨ow6, hC, A2, n2, cc2, B2, rfl, hdl2, hr2⟩ := zAa hcut
          have HC := hide hC
          have hnl := zUk c a b (S.st a) (zAa HLN)
          have hll : (zAx c S.aged a ++ (⟨a, c.n, (zCa c (S.ask a)).1⟩ :: zDx c S.aged a b)).length ≤ 100 := by
           rw [List.length_append, List.length_cons]
           have := zAa HHL
           have := zAa HRL
           omega
          have HSE := hide (fun er => zJp hC.tk (show (S.lts ++ _).length ≤ 1000000 by rw [List.length_append]; have := (zAa HS).len; omega) a b er A2 n2 cc2 (zAv c a b (S.st a)).1 wc.heap.size hdl2 (by omega) (Reads.of_own hr2) (Nat.le_refl _) (WalkArith.wf_i64 (by omega)) (WalkArith.wf_i64 (by omega)) (by have := hC.sn; omega))
          have w0 := hC.tk.w0
          clear hC hr2 hdl2 hnl hll
          go_wp2_with fail
          refine (zAa HSE _).mono ?_
          rintro _ w6 hp
          obtain ⟨rfl, t4, ow7, h4, _⟩ := (zAa HC).send hp
          have H4 := hide h4
          clear hp h4 w0 HSE HC
          go_wp2_with fail
          go_roundw
          case rel => exact ⟨b + 1, t4, ow7, by omega, by go_num, by rw [zAa HSU, ← List.cons_append, ← List.append_assoc]; exact H4⟩
          case measure => simp [intOf]; omega
       ·obtain rfl : b = c.n := by omega
        go_wp2_with fail
        go_roundw
        case rel => exact ⟨a + 1, t, ow5, by omega, by go_num, by rw [zUw]; exact HB⟩
        case measure => simp [intOf]; omega
    ·obtain rfl : a = c.n := by omega
     have w0 := (zAa HB).tk.w0
     have h0 := (zAa HB).tk.h0
     rw [zAa HN] at h0
     clear h5
     have hk8 := zAa HMK wr
     obtain ⟨w4, hw4⟩ : ∃ w4, w4 = wr.alloc (.cells (zBc c.n) 22) := ⟨_, rfl⟩
     have hb4 : Below wr.heap.size wr w4 := by rw [hw4]; exact (Below.refl _ _).alloc (Nat.le_refl _) _
     obtain ⟨gb, hgb⟩ : ∃ g, g = wr.heap.size := ⟨_, rfl⟩
     have k4 : Blk w4 gb 22 (zBc c.n) := by rw [hw4, hgb]; exact Blk.new _ _ _
     have hG4 : GivAt w c y (S.aged.rounds c 0) K base ow tb wb (zAx c S.aged c.n) (zBh c S 0) gb (List.replicate c.n RwI.nil) t w4 ow2 := by
      have h4 := (zAa HB).calm hb4
      have hsz := (zAa HB).tk.kept.only.size
      rw [zWy]
      refine ⟨h4, GivA.new k4 (by omega), (zAa HB).tk.pw.fresh _ (by omega), fun r hr b hb => ?_, fun r hr k hk => ?_⟩
      ·rw [(List.mem_replicate.1 hr).2] at hb; cases hb
      ·rw [(List.mem_replicate.1 hr).2] at hk; cases hk
     have HG4 := hide hG4
     have HZ4 := hide (show (List.replicate c.n RwI.nil).map RwI.zs = (List.range c.n).map (zBq c S 0) by
      rw [List.map_replicate, show zBq c S 0 = fun _ => [] from rfl, List.map_const', List.length_range]; rfl)
     rw [← hw4, ← hgb] at hk8
     have HGB := hide hgb
     clear hw4 hb4 k4 hgb hG4 HB
     go_upto_region 25 with fail
     clear hk8 w0 h0
     have w0 := (zAa HG4).tk.tk.w0
     have h6 := (zAa HG4).tk.tk.h6
     go_wp2_with fail
     go_loopw [129] (fun i wr => ∃ (k : Nat) (L : List RwI) (t : Tol) (ow1 : Nat → Tag), k ≤ c.m ∧ i = .int .i64 k ∧ Hid (GivAt w c y (S.aged.rounds c k) K base ow tb wb (zAx c S.aged c.n) (zBh c S k) gb L t wr ow1) ∧ Hid (L.map RwI.zs = (List.range c.n).map (zBq c S k))) (fun i _ => c.m - (intOf i).toNat)
     case atStart => exact ⟨0, _, t, ow2, Nat.zero_le _, rfl, HG4, HZ4⟩
     case round =>
      obtain ⟨k, L, t, ow2, hk, rfl, HG, HZ⟩ := hrel
      by_cases hlt : k < c.m
      ·have hlt' : (k : Int) < (c.m : Int) := by omega
       clear w0 h6
       have b0 := (zAa HG).tk.tk.bk hlt
       have hbk : ((S.aged.rounds c k).posts (zAx c S.aged c.n)).bk k = S.bk k := if_neg (Nat.lt_irrefl k)
       have hokb := (zAa HS).bk k
       have HRO := hide (zRh (zAa HG).tk.tk.pw k hlt N (by rw [hbk]; exact hokb) (by omega))
       rw [hbk] at HRO
       have HRS := hide (rounds_succ S.aged c k)
       have HPS := hide (zRn c S k)
       have HGL := hide (show (zHw c S k).length = c.n from (zPc hokb (zAa HCP)).lg)
       have HGR := hide (fun who => zUc c S k who)
       obtain ⟨gl, hgl⟩ : ∃ gl, gl = zHw c S k := ⟨_, rfl⟩
       obtain ⟨rp, hrp⟩ : ∃ rp, rp = zDp c S k := ⟨_, rfl⟩
       rw [show (zBj c.cap c.tk (S.bk k)).2.1 = gl from hgl.symm, show (zBj c.cap c.tk (S.bk k)).2.2 = rp from hrp.symm] at HRO
       rw [← hgl] at HGL HGR
       rw [← hrp] at HPS
       clear hbk hokb hgl hrp
       go_wp2_with fail
       refine (zAa HRO).mono ?_
       rintro _ w5 ⟨A, cc, ow3, rfl, hr5, hp5, hk5, hn5⟩
       have hG5 : GivAt w c y (S.aged.rounds c (k + 1)) K base ow tb wb (zAx c S.aged c.n) (zBh c S k) gb L t w5 ow3 := (zAa HG).turn (by rw [zAa HRS]; exact hp5) hk5 (by rw [zAa HRS])
       have hgp5 : Gap L (.slice A c.n cc) := Gap.of_lt (zAa HG).giv (Nat.le_refl _) (fun q hq => (hr5.lt q hq).1)
       have HRB := hide (show ∀ q, (Value.slice t.rA t.rn t.rc).ownBlock = some q → q < wr.heap.size from fun q hq => ((zAa HG).tk.tk.own.ro.lt q hq).2)
       obtain ⟨B5, hB5⟩ : ∃ B5, B5 = wr.heap.size := ⟨_, rfl⟩
       rw [← hB5] at hr5 HRB
       have HG5 := hide hG5
       have HR5 := hide hr5
       have HGP5 := hide hgp5
       clear hr5 hp5 hk5 hn5 hG5 hgp5 b0 HG HRO hB5
       go_upto_if 139 with fail
       go_cut [] (fun W => Hid (∃ t ow4, GivAt w c y (S.aged.rounds c (k + 1)) K base ow tb wb (zAx c S.aged c.n) (zBh c S (k + 1)) gb L t W ow4 ∧ W.ownsRow B5 3 1 (.slice A c.n cc) c.n (gl.map (.int .i64))))
       case first =>
        by_cases hrp0 : 0 ≤ rp
        ·have hps := zAa HPS
         have hge : decide (rp ≥ 0) = true := by simpa using hrp0
         rw [if_pos hrp0] at hps
         have HPE := hide hps
         have hT5 := (zAa HG5).tk.tk
         have t10 : w5.cell? ⟨tb, 10, none⟩ = some (.slice t.rA t.rn t.rc) := hT5.tk.cell 10
         have hown := hT5.own.ro
         have hrn : t.rn ≤ 3 := by
          have h1 := hT5.own.ok.rl
          rw [(zAa HG5).tk.d] at h1
          dsimp only at h1
          have h2 : (zBh c S k).length ≤ k := by
           unfold zBh
           refine Nat.le_trans (List.length_filterMap_le _ _) ?_
           rw [List.length_range]
           exact Nat.le_refl _
          omega
         have HO := hide hown
         have HMQ := hide (show (t.rn + 1) * 8 ≤ 140737488355328 by omega)
         have hsz := hT5.kept.only.size
         have hrep : t.d.report = zBh c S k := by rw [(zAa HG5).tk.d]
         have HREP := hide hrep
         clear hps hown hT5 hrep
         go_wp2_with (first
          | (at_builtin; (refine zAl w5 rfl (.tmp 141) (.tmp 143) _ rfl w.heap.size 3 iI _ 1 8 Tryz.underlying22 hiI hzI hsI hyI rfl (by omega) (by omega) _ t.rn _ (zAa HO) rfl _ 1 _ rfl rfl rfl (by simp [Value.oneCell']) (zAa HMQ) hsz ?_); intro g4 cap4 w7 hg4 hown4 hbel4 hgr4 hat4
             have o1 : Only (fun k => (Value.slice t.rA t.rn t.rc).ownBlock = some k) w5 w7 := (Only.refl _ w5).grown hgr4 (fun g hg _ => hg)
             have f10 : w7.frozen? ⟨tb, 10, none⟩ = false := ((zAa HG5).tk.tk.tk.only o1 (zAe (zAa HG5).tk.tk.own.ro (zAa HG5).tk.tk.tk (by decide))).frozen 10
             have c10 : w7.cell? ⟨tb, 10, none⟩ = some (.slice t.rA t.rn t.rc) := ((zAa HG5).tk.tk.tk.only o1 (zAe (zAa HG5).tk.tk.own.ro (zAa HG5).tk.tk.tk (by decide))).cell 10
             obtain ⟨h8, o8⟩ := (zAa HG5).report (z := rp) hgr4 (by rw [zAa HREP] at hown4; exact hown4) (by
              rcases hat4 with e | e
              ·exact .inl e
              ·exact .inr (by omega))
             have hr8 := zAk (zAa HR5) o8 (fun q hq e => by
              have h1 := ((zAa HR5).lt q hq).1
              rcases e with rfl | e
              ·exact zAe (zAa HR5) (zAa HG5).tk.tk.tk (by decide) hq
              ·have := zAa HRB q e
               omega)
             have H8 := hide (show Hid (∃ t' ow4, GivAt w c y (S.aged.rounds c (k + 1)) K base ow tb wb (zAx c S.aged c.n) (zBh c S (k + 1)) gb L t' (w7.setCell ⟨tb, 10, none⟩ (.slice (some ⟨g4, 0, none⟩) (t.rn + 1) cap4)) ow4 ∧ (w7.setCell ⟨tb, 10, none⟩ (.slice (some ⟨g4, 0, none⟩) (t.rn + 1) cap4)).ownsRow B5 3 1 (.slice A c.n cc) c.n (gl.map (.int .i64))) from hide ⟨_, _, by rw [zAa HPE]; exact h8, hr8⟩)
             clear h8 o8 hr8 o1 hg4 hown4 hbel4 hgr4 hat4))
         go_meet
         exact zAa H8
        ·have hps := zAa HPS
         rw [if_neg hrp0] at hps
         have HPE := hide hps
         have hge : decide (rp ≥ 0) = false := by simpa using hrp0
         clear hps
         go_wp2_with fail
         go_meet
         exact hide ⟨t, ow3, by rw [zAa HPE]; exact zAa HG5, zAa HR5⟩
       case rest =>
        obtain ⟨t, ow4, hG, hR⟩ := zAa hcut
        have HG0 := hide hG
        have HR0 := hide hR
        have HZ0 := hide (show L.map RwI.zs = (List.range c.n).map fun i => if i < 0 then zBq c S (k + 1) i else zBq c S k i from zAa HZ)
        clear hG hR HG5 HR5 HRB HZ
        go_wp2_with fail
        go_loopw [148] (fun i W => ∃ (q : Nat) (L : List RwI) (ow1 : Nat → Tag), q ≤ c.n ∧ i = .int .i64 q ∧ Hid (GivAt w c y (S.aged.rounds c (k + 1)) K base ow tb wb (zAx c S.aged c.n) (zBh c S (k + 1)) gb L t W ow1) ∧ Hid (L.map RwI.zs = (List.range c.n).map fun i => if i < q then zBq c S (k + 1) i else zBq c S k i) ∧ Hid (W.ownsRow B5 3 1 (.slice A c.n cc) c.n (gl.map (.int .i64))) ∧ Hid (Gap L (.slice A c.n cc))) (fun i _ => c.n - (intOf i).toNat)
        case atStart => exact ⟨0, L, ow4, Nat.zero_le _, rfl, HG0, HZ0, HR0, HGP5⟩
        case round =>
         obtain ⟨q, L, ow5, hq, rfl, HG, HZ, HR, HGP⟩ := hrel
         by_cases hltq : q < c.n
         ·have hltq' : (q : Int) < (c.n : Int) := by omega
          obtain ⟨bl, ol, z, hA, _, hz, hcz⟩ := zDd (Reads.of_own (zAa HR)) hltq
          have hzl : gl.getD q 0 = z := by rw [List.getD_eq_getElem?_getD, hz]; rfl
          obtain ⟨r, hri, hrz, hstep⟩ := giv_step (zAa HZ) hltq (by have := zAa HGR q; rw [hzl] at this; exact this)
          have hrr := (zAa HG).giv.rows r (List.mem_of_getElem? hri)
          have hcl := (zAa HG).giv.cell hri
          have hrl : r.zs.length ≤ 3 := by rw [hrz, yEh]; omega
          obtain ⟨rA, rc, hrv, _⟩ := zAf hrr
          rw [hrv] at hcl
          obtain ⟨rn, hrn⟩ : ∃ rn, rn = r.zs.length := ⟨_, rfl⟩
          rw [← hrn] at hcl hrl hrr
          have HO := hide hrr
          rw [hrv, ← hrn] at HO
          have HMQ := hide (show (rn + 1) * 8 ≤ 140737488355328 by omega)
          have hsz := (zAa HG).tk.tk.kept.only.size
          have HRI := hide hri
          have HRV := hide hrv
          have HRN := hide hrn
          have HST := hide hstep
          subst hA
          clear hrr hri hrv hrn hstep hzl hz hrz hrl
          go_wp2_with (first
           | (at_builtin; (refine zAl wr rfl (.tmp 158) (.tmp 160) _ rfl w.heap.size 3 iI _ 1 8 Tryz.underlying22 hiI hzI hsI hyI rfl (by omega) (by omega) _ rn _ (zAa HO) rfl _ 1 _ rfl rfl rfl (by simp [Value.oneCell']) (zAa HMQ) hsz ?_); intro g4 cap4 w7 hg4 hown4 hbel4 hgr4 hat4
              have hrvn : r.v = .slice rA rn rc := by rw [zAa HRV, zAa HRN]
              rw [← hrvn] at hgr4 hat4
              have o1 : Only (fun k => r.v.ownBlock = some k) wr w7 := (Only.refl _ wr).grown hgr4 (fun g hg _ => hg)
              have hrr2 := (zAa HG).giv.rows r (List.mem_of_getElem? (zAa HRI))
              have fgb : w7.frozen? ⟨gb, q, none⟩ = false := ((zAa HG).giv.blk.only o1 (zAe hrr2 (zAa HG).giv.blk (by decide))).frozen q
              have cgb : w7.cell? ⟨gb, q, none⟩ = some (.slice rA rn rc) := by
               have h1 := (Blk.cell ((zAa HG).giv.blk.only o1 (zAe hrr2 (zAa HG).giv.blk (by decide))) q).trans (((zAa HG).giv.blk.cell q).symm.trans ((zAa HG).giv.cell (zAa HRI)))
               rw [hrvn] at h1
               exact h1
              have hat5 : (RwI.v ⟨.slice (some ⟨g4, 0, none⟩) (rn + 1) cap4, r.zs ++ [z]⟩).ownBlock = r.v.ownBlock ∨ ∃ k, (RwI.v ⟨.slice (some ⟨g4, 0, none⟩) (rn + 1) cap4, r.zs ++ [z]⟩).ownBlock = some k ∧ wr.heap.size ≤ k := by
               rcases hat4 with e | e
               ·exact .inl (by rw [← e]; rfl)
               ·exact .inr ⟨g4, rfl, by omega⟩
              obtain ⟨h8, o8⟩ := (zAa HG).push (r' := ⟨.slice (some ⟨g4, 0, none⟩) (rn + 1) cap4, r.zs ++ [z]⟩) (zAa HRI) hgr4 (by
               dsimp only
               rw [List.length_append, ← zAa HRN, List.map_append]
               exact hown4) hat5
              have hr8 := zAk (zAa HR) o8 (fun x hx e => by
               rcases e with rfl | e
               ·exact zAe (zAa HR) (zAa HG).giv.blk (by decide) hx
               ·exact zAa HGP r (List.mem_of_getElem? (zAa HRI)) x e hx)
              have H8 := hide h8
              have HR8 := hide hr8
              have HGP8 := hide ((zAa HGP).set_ (zAa HRI) hat5 (fun x hx => ((zAa HR).lt x hx).2))
              have HZ8 := hide (zAa HST (.slice (some ⟨g4, 0, none⟩) (rn + 1) cap4))
              clear h8 o8 hr8 o1 hg4 hown4 hbel4 hgr4 hat4 hat5 hrr2 hrvn hcl hcz))
          go_roundw
          case rel => exact ⟨q + 1, _, ow5, by omega, by go_num, H8, HZ8, HR8, HGP8⟩
          case measure => simp [intOf]; omega
         ·obtain rfl : q = c.n := by omega
          have HZF := hide (giv_full (zAa HZ))
          go_wp2_with fail
          go_roundw
          case rel => exact ⟨k + 1, L, t, ow5, by omega, by go_num, HG, HZF⟩
          case measure => simp [intOf]; omega
      ·obtain rfl : k = c.m := by omega
       clear w0 h6
       have HG0 := hide (show GivAt w c y (S.aged.rounds c c.m) K base ow tb wb (zAx c S.aged c.n ++ zBs c S 0) (zBh c S c.m) gb L t wr ow2 by rw [show zBs c S 0 = [] from rfl, List.append_nil]; exact zAa HG)
       clear HG
       go_wp2_with fail
       go_loopw [167] (fun i W => ∃ (q : Nat) (t : Tol) (ow1 : Nat → Tag), q ≤ c.n ∧ i = .int .i64 q ∧ Hid (GivAt w c y (S.aged.rounds c c.m) K base ow tb wb (zAx c S.aged c.n ++ zBs c S q) (zBh c S c.m) gb L t W ow1)) (fun i _ => c.n - (intOf i).toNat)
       case atStart => exact ⟨0, t, ow2, Nat.zero_le _, rfl, HG0⟩
       case round =>
        obtain ⟨q, t, ow5, hq, rfl, HG⟩ := hrel
        have HSL := hide (zIr c S.aged hn8 c.n (Nat.le_refl _))
        have HQL := hide (zLo c S q)
        by_cases hltq : q < c.n
        ·have hltq' : (q : Int) < (c.n : Int) := by omega
         obtain ⟨r, hri, hrz⟩ := giv_at (zAa HZ) hltq
         have hrr := (zAa HG).giv.rows r (List.mem_of_getElem? hri)
         have hcl := (zAa HG).giv.cell hri
         obtain ⟨rA, rc, hrv, _⟩ := zAf hrr
         have hcaps := zCx (by rw [hrv] at hrr; exact hrr)
         have HAK := hide (zVa c ⟨rA, r.zs.length, rc, r.zs⟩ wr.heap.size wr ((zAa HG).tk.tk.pw.cfg.more (zAa HG).tk.tk.pw.bw) ⟨rfl, hcaps.2.1, hcaps.2.2, by rw [hrv] at hrr; exact Reads.of_own hrr⟩ (Nat.le_refl _))
         rw [hrv] at hcl
         obtain ⟨rn, hrn⟩ : ∃ rn, rn = r.zs.length := ⟨_, rfl⟩
         rw [← hrn] at hcl
         unfold Cfg.val zHa at HAK
         dsimp only at HAK
         rw [← hrn, hrz] at HAK
         have hcb := ((zAa HG).tk.tk.pw.pc .con).blk
         have e0 : wr.cell? ⟨y.hb, 0, none⟩ = some (.int .i64 c.br) := hcb.cell 0
         have e1 : wr.cell? ⟨y.hb, 1, none⟩ = some (.slice c.la.A c.la.n c.la.c) := hcb.cell 1
         have e2 : wr.cell? ⟨y.hb, 2, none⟩ = some (.int .i64 c.tk) := hcb.cell 2
         have e3 : wr.cell? ⟨y.hb, 3, none⟩ = some (.slice c.mi.A c.mi.n c.mi.c) := hcb.cell 3
         have e4 : wr.cell? ⟨y.hb, 4, none⟩ = some (.int .i64 c.cap) := hcb.cell 4
         have w0 := (zAa HG).tk.tk.w0
         have hnl := zKj c (zBq c S c.m q) hm3.2
         have HNL := hide hnl
         clear hcb hri hrz hrr hrv hcaps hrn hnl
         go_wp2_with fail
         refine (zAa HAK).mono ?_
         rintro _ w6 ⟨v6, rfl, ho6, hb6⟩
         have h6 := (zAa HG).calm hb6
         obtain ⟨A6, n6, c6, B6, rfl, hdl6, hr6⟩ := BytCut.of ho6
         have H6 := hide h6
         have hnl := zAa HNL
         have hll : (zAx c S.aged c.n ++ zBs c S q).length ≤ 100 := by
          rw [List.length_append]
          have := zAa HSL
          have := zAa HQL
          omega
         have HSE := hide (fun er => zJp h6.tk.tk (show (S.lts ++ _).length ≤ 1000000 by rw [List.length_append]; have := (zAa HS).len; omega) c.n q er A6 n6 c6 (zCa c (zBq c S c.m q)).1 w6.heap.size hdl6 (by omega) (Reads.of_own hr6) (Nat.le_refl _) (WalkArith.wf_i64 (by omega)) (WalkArith.wf_i64 (by omega)) (by have := h6.tk.sn; omega))
         clear e0 e1 e2 e3 e4 w0 hcl ho6 hb6 hnl hll hr6 hdl6
         have w0 := h6.tk.tk.w0
         have h0 := h6.tk.tk.h0
         rw [zAa HN] at h0
         clear h6
         go_wp2_with fail
         refine (zAa HSE _).mono ?_
         rintro _ w7 hp
         obtain ⟨rfl, t4, ow7, h4⟩ := (zAa H6).send hp
         have H4 := hide h4
         clear hp h4 w0 h0 HSE H6 HAK
         go_wp2_with fail
         go_roundw
         case rel => exact ⟨q + 1, t4, ow7, by omega, by go_num, by rw [zSr, ← List.append_assoc]; exact H4⟩
         case measure => simp [intOf]; omega
        ·obtain rfl : q = c.n := by omega
         have HKT := hide (zAa HG).tk.tk.tk
         obtain ⟨g0, g1, g2, g3, g4, g5, g6, g7, g8, g9, g10⟩ := zAt (zAa HKT)
         obtain ⟨f0, f1, f2, f3, f4, f5, f6, f7, f8, f9, f10⟩ := zBi (zAa HKT)
         go_wp2_with fail
         change bodyPost _ _ _ _ _ (wrT wr tb t)
         have k9 := zCc (zAa HKT) rfl t
         have HO9 := hide (zBk wr tb t)
         clear g0 g1 g2 g3 g4 g5 g6 g7 g8 g9 g10 f0 f1 f2 f3 f4 f5 f6 f7 f8 f9 f10
         generalize wrT wr tb t = w9 at k9 HO9 ⊢
         obtain ⟨d0, d1, d2, d3, d4, d5, d6, d7, d8, d9, d10⟩ := zAt k9
         refine bodyPost_ret (v := t.val) (by simp [results, Tryz.results63, go_sem, d0, d1, d2, d3, d4, d5, d6, d7, d8, d9, d10, Tol.val]) rfl ((zAa HG).fin (zAa HO9))
end
end
end Go.Proofs.YtbolcebmbpepdaaGreatDoor
