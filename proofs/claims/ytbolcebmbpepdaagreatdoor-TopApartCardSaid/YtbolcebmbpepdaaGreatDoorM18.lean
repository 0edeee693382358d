/- Contracts and plain facts, set together by program out of smaller texts. Conditions: none beyond what each theorem states. -/
import Derived.Test.YtbolcebmbpepdaaGreatDoorM06
import Derived.Test.YtbolcebmbpepdaaGreatDoorM17
import Derived.Test.YtbolcebmbpepdaaGreatDoorM01
namespace Go.Proofs.YtbolcebmbpepdaaGreatDoor
set_option linter.unusedVariables false
section
open Go.RowKit
theorem zGw {D : Nat → Prop} {g : Nat} {a : World} : ∀ (vs : List Value) (o : Nat) (w : World), Only D a w → D g → Only D a (w.setCells g o vs)
 | [], o, w, h, hg => h
 | v :: vs, o, w, h, hg => zGw vs (o + 1) _ (h.setCell (fun _ => hg) v) hg
def idxD (f : Hd → Bool) : List Hd → Nat → Int
 | [], _ => -1
 | e :: l, k => if f e then k else idxD f l (k + 1)
theorem zYa (fn : FuncId) (f : Hd → Bool) (A : Option Addr) (n c : Nat) (l : List Hd) (B : Nat) (w : World) (hl : l.length = n) (hm : n * 24 ≤ 140737488351232) (hr : Reads w B 3 A n (l.flatMap Hd.cells)) (hB : B ≤ w.heap.size)
    (hrun : ∀ args W, (callFunc fn args).run Tryz.prog W = .ok (.enter fn args) W)
    (h : ∀ (e : Hd) W, Calls Tryz.prog fn #[.agg #[.int .i64 e.id, .int .i64 e.count, .int .i64 e.life]] W fun x w' => x = .returned (.bool (f e)) ∧ Below W.heap.size W w') :
    Calls Tryz.prog 140 #[.slice A n c, .func (.func fn) #[] #[]] w fun e w' => e = .returned (.int .i64 (idxD f l 0)) ∧ Below w.heap.size w w' := by
 have HR := hide (hr.more hB)
 have HL := hide hl
 have H := hide h
 clear hr hl h
 go_enter Tryz.func140, Tryz.ntmps140
 go_wp2_with fail
 go_loopw [8] (fun i wr => ∃ (k : Nat), k ≤ n ∧ i = .int .i64 k ∧ Below w.heap.size w wr ∧ Hid (idxD f (l.drop k) k = idxD f l 0)) (fun i _ => n - (intOf i).toNat)
 case atStart => exact ⟨0, Nat.zero_le _, rfl, Below.refl _ _, rfl⟩
 case round =>
  obtain ⟨k, hk, rfl, hb, HI⟩ := hrel
  by_cases hlt : k < n
  ·obtain ⟨b, o, e, rfl, hbl, he, hc⟩ := zCf Hd.cells_len (by omega) ((zAa HR).below hb) hlt (zAa HL)
   have c0 : wr.cell? ⟨b, o + k * 3, none⟩ = some (.int .i64 e.id) := hc 0 _ rfl
   have c1 : wr.cell? ⟨b, o + k * 3 + 1, none⟩ = some (.int .i64 e.count) := hc 1 _ rfl
   have c2 : wr.cell? ⟨b, o + k * 3 + 2, none⟩ = some (.int .i64 e.life) := hc 2 _ rfl
   have HI2 := hide (by have h := zAa HI; rw [zCb l k e he, idxD] at h; exact h)
   have HBB := hide hb
   clear HI hc he hb
   cases hf : f e with
   | true =>
    have HI3 := hide (by have h := zAa HI2; rw [if_pos hf] at h; exact h)
    have H2 := hide (zAa H e)
    rw [hf] at H2
    clear HI2
    go_wp2_with fail
    refine (zAa H2 _).mono ?_
    rintro _ w2 ⟨rfl, hb2⟩
    have HB2 := hide ((zAa HBB).trans (hb2.mono (zAa HBB).size))
    clear hb2
    go_wp2_with fail
    go_ret
    exact ⟨zBn (zAa HI3), zAa HB2⟩
   | false =>
    have HI3 := hide (by have h := zAa HI2; rw [if_neg (by rw [hf]; simp)] at h; exact h)
    have H2 := hide (zAa H e)
    rw [hf] at H2
    clear HI2
    go_wp2_with fail
    refine (zAa H2 _).mono ?_
    rintro _ w2 ⟨rfl, hb2⟩
    have HB2 := hide ((zAa HBB).trans (hb2.mono (zAa HBB).size))
    clear hb2
    go_wp2_with fail
    go_roundw
    case rel => exact ⟨k + 1, by omega, by go_num, zAa HB2, zAa HI3⟩
    case measure => simp [intOf]; omega
  ·obtain rfl : k = n := by omega
   have HF := hide (show idxD f l 0 = -1 by
    have h := zAa HI
    rw [List.drop_of_length_le (by rw [zAa HL]; exact Nat.le_refl _)] at h
    exact h.symm)
   have HBB := hide hb
   clear HI hb
   go_wp2_with fail
   go_ret
   exact ⟨zBn (zAa HF).symm, zAa HBB⟩
theorem zUn (fn : FuncId) (q : Value) (f : Hd → Bool) (A : Option Addr) (n c : Nat) (l : List Hd) (B : Nat) (w : World) (hl : l.length = n) (hm : n * 24 ≤ 140737488351232) (hr : Reads w B 3 A n (l.flatMap Hd.cells)) (hB : B ≤ w.heap.size)
    (hrun : ∀ args W, (callFunc fn args).run Tryz.prog W = .ok (.enter fn args) W)
    (h : ∀ (e : Hd) W, Below w.heap.size w W → Calls Tryz.prog fn #[.agg #[.int .i64 e.id, .int .i64 e.count, .int .i64 e.life], q] W fun x w' => x = .returned (.bool (f e)) ∧ Below W.heap.size W w') :
    Calls Tryz.prog 140 #[.slice A n c, .func (.func fn) #[] #[q]] w fun e w' => e = .returned (.int .i64 (idxD f l 0)) ∧ Below w.heap.size w w' := by
 have HR := hide (hr.more hB)
 have HL := hide hl
 have H := hide h
 clear hr hl h
 go_enter Tryz.func140, Tryz.ntmps140
 go_wp2_with fail
 go_loopw [8] (fun i wr => ∃ (k : Nat), k ≤ n ∧ i = .int .i64 k ∧ Below w.heap.size w wr ∧ Hid (idxD f (l.drop k) k = idxD f l 0)) (fun i _ => n - (intOf i).toNat)
 case atStart => exact ⟨0, Nat.zero_le _, rfl, Below.refl _ _, rfl⟩
 case round =>
  obtain ⟨k, hk, rfl, hb, HI⟩ := hrel
  by_cases hlt : k < n
  ·obtain ⟨b, o, e, rfl, hbl, he, hc⟩ := zCf Hd.cells_len (by omega) ((zAa HR).below hb) hlt (zAa HL)
   have c0 : wr.cell? ⟨b, o + k * 3, none⟩ = some (.int .i64 e.id) := hc 0 _ rfl
   have c1 : wr.cell? ⟨b, o + k * 3 + 1, none⟩ = some (.int .i64 e.count) := hc 1 _ rfl
   have c2 : wr.cell? ⟨b, o + k * 3 + 2, none⟩ = some (.int .i64 e.life) := hc 2 _ rfl
   have HI2 := hide (by have h := zAa HI; rw [zCb l k e he, idxD] at h; exact h)
   have HBB := hide hb
   clear HI hc he hb
   cases hf : f e with
   | true =>
    have HI3 := hide (by have h := zAa HI2; rw [if_pos hf] at h; exact h)
    have H2 := hide (zAa H e)
    rw [hf] at H2
    clear HI2
    go_wp2_with fail
    refine (zAa H2 _ (zAa HBB)).mono ?_
    rintro _ w2 ⟨rfl, hb2⟩
    have HB2 := hide ((zAa HBB).trans (hb2.mono (zAa HBB).size))
    clear hb2
    go_wp2_with fail
    go_ret
    exact ⟨zBn (zAa HI3), zAa HB2⟩
   | false =>
    have HI3 := hide (by have h := zAa HI2; rw [if_neg (by rw [hf]; simp)] at h; exact h)
    have H2 := hide (zAa H e)
    rw [hf] at H2
    clear HI2
    go_wp2_with fail
    refine (zAa H2 _ (zAa HBB)).mono ?_
    rintro _ w2 ⟨rfl, hb2⟩
    have HB2 := hide ((zAa HBB).trans (hb2.mono (zAa HBB).size))
    clear hb2
    go_wp2_with fail
    go_roundw
    case rel => exact ⟨k + 1, by omega, by go_num, zAa HB2, zAa HI3⟩
    case measure => simp [intOf]; omega
  ·obtain rfl : k = n := by omega
   have HF := hide (show idxD f l 0 = -1 by
    have h := zAa HI
    rw [List.drop_of_length_le (by rw [zAa HL]; exact Nat.le_refl _)] at h
    exact h.symm)
   have HBB := hide hb
   clear HI hb
   go_wp2_with fail
   go_ret
   exact ⟨zBn (zAa HF).symm, zAa HBB⟩
theorem zNo (f : Hd → Bool) : ∀ (l : List Hd) (k : Nat), (idxD f l k = -1 ∧ ∀ e ∈ l, f e = false) ∨ ∃ i e, i < l.length ∧ idxD f l k = ((k + i : Nat) : Int) ∧ (∀ x ∈ l.take i, f x = false) ∧ l[i]? = some e ∧ f e = true
 | [], k => .inl ⟨rfl, by simp⟩
 | e :: l, k => by
  cases hf : f e with
  | true => exact .inr ⟨0, e, by simp, by rw [idxD, if_pos hf]; simp, by simp, rfl, hf⟩
  | false =>
   have e1 : idxD f (e :: l) k = idxD f l (k + 1) := by rw [idxD, if_neg (by rw [hf]; simp)]
   rcases zNo f l (k + 1) with ⟨h1, h2⟩ | ⟨i, x, h0, h1, h2, h3, h4⟩
   ·exact .inl ⟨by rw [e1, h1], fun y hy => by rcases List.mem_cons.1 hy with rfl | hy; exact hf; exact h2 y hy⟩
   ·refine .inr ⟨i + 1, x, by simp; omega, by rw [e1, h1]; congr 1; omega, ?_, by simpa using h3, h4⟩
    intro y hy
    rw [List.take_succ_cons] at hy
    rcases List.mem_cons.1 hy with rfl | hy
    ·exact hf
    ·exact h2 y hy
theorem zRy (f : Hd → Bool) (l : List Hd) (h : ∀ e ∈ l, f e = false) : l.filter (fun e => !f e) = l :=
 List.filter_eq_self.2 fun e he => by rw [h e he]; rfl
theorem zHj (l : List Hd) : (l.flatMap Hd.cells).length = l.length * 3 := by
 induction l with
 | nil => rfl
 | cons e l ih => rw [List.flatMap_cons, List.length_append, ih, List.length_cons]; simp [Hd.cells]; omega
def HDel (g : Nat) (wr : World) (kept : List Hd) (M : List Value) (ds : List Hd) (T : List Value) : Prop := Blk wr g 161 (kept.flatMap Hd.cells ++ M ++ (ds.flatMap Hd.cells ++ T)).toArray
theorem HDel.cell {g : Nat} {wr : World} {kept ds : List Hd} {M T : List Value} {e : Hd} (h : HDel g wr kept M (e :: ds) T) (j : Nat) (hj : (kept.flatMap Hd.cells ++ M).length = j * 3) (r : Nat) (v : Value) (hr : (Hd.cells e)[r]? = some v) : wr.cell? ⟨g, j * 3 + r, none⟩ = some v := by
 rw [Blk.cell h]
 have hr5 : r < 3 := by
  have := (List.getElem?_eq_some_iff.1 hr).1
  simpa [Hd.cells] using this
 simp only [List.getElem?_toArray]
 rw [List.getElem?_append_right (by omega), hj]
 rw [show j * 3 + r - j * 3 = r by omega, List.flatMap_cons, List.append_assoc, List.getElem?_append_left (by simpa [Hd.cells] using hr5)]
 exact hr
theorem HDel.skip {g : Nat} {wr : World} {kept ds : List Hd} {M T : List Value} {e : Hd} (h : HDel g wr kept M (e :: ds) T) : HDel g wr kept (M ++ Hd.cells e) ds T := by
 unfold HDel at h ⊢
 simpa [List.flatMap_cons] using h
theorem HDel.put {g : Nat} {wr : World} {kept ds : List Hd} {M T : List Value} {e : Hd} (h : HDel g wr kept M (e :: ds) T) (i : Nat) (hi : kept.length = i) (hM : 3 ≤ M.length) :
    HDel g (wr.setCells g (i * 3) (Hd.cells e)) (kept ++ [e]) (M.drop 3 ++ Hd.cells e) ds T := by
 unfold HDel at h ⊢
 have hs := Blk.setCells_ (Hd.cells e) (kept.flatMap Hd.cells) (M.take 3) (M.drop 3 ++ (Hd.cells e ++ (ds.flatMap Hd.cells ++ T))) wr (by
  have e1 : M.take 3 ++ M.drop 3 = M := List.take_append_drop 3 M
  have e2 : kept.flatMap Hd.cells ++ M.take 3 ++ (M.drop 3 ++ (Hd.cells e ++ (ds.flatMap Hd.cells ++ T))) = kept.flatMap Hd.cells ++ M ++ ((e :: ds).flatMap Hd.cells ++ T) := by
   rw [List.flatMap_cons, List.append_assoc, ← List.append_assoc (M.take 3), e1]
   simp
  rw [e2]; exact h) (by simp [Hd.cells]; omega)
 rw [zHj, hi] at hs
 simpa using hs
set_option maxHeartbeats 1600000 in
theorem zSv (fn : FuncId) (f : Hd → Bool) (base : Nat) (A : Option Addr) (n c : Nat) (l : List Hd) (w : World) (hm : n * 24 ≤ 140737488351232) (hown : w.ownsRow base 161 3 (.slice A n c) n (l.flatMap Hd.cells)) (hl : l.length = n) (hB : base ≤ w.heap.size)
    (hrun : ∀ args W, (callFunc fn args).run Tryz.prog W = .ok (.enter fn args) W)
    (h : ∀ (e : Hd) W, Calls Tryz.prog fn #[.agg #[.int .i64 e.id, .int .i64 e.count, .int .i64 e.life]] W fun x w' => x = .returned (.bool (f e)) ∧ Below W.heap.size W w') :
    Calls Tryz.prog 123 #[.slice A n c, .func (.func fn) #[] #[]] w fun e w' => ∃ v, e = .returned v ∧ w'.ownsRow base 161 3 v (l.filter fun e => !f e).length ((l.filter fun e => !f e).flatMap Hd.cells) ∧ Only (fun k => (Value.slice A n c).ownBlock = some k) w w' ∧ ∀ k, v.ownBlock = some k → (Value.slice A n c).ownBlock = some k := by
 have HIX := hide (zYa fn f A n c l w.heap.size w hl hm (Reads.of_own hown) (Nat.le_refl _) hrun h)
 have H := hide h
 have HL := hide hl
 clear h
 rcases zNo f l 0 with ⟨h1, h2⟩ | ⟨i, e, hi0, h1, h2, h3, h4⟩
 ·rw [h1] at HIX
  have hk := zRy f l h2
  have HO := hide hown
  clear hown hl
  go_enter Tryz.func123, Tryz.ntmps123
  go_wp2_with fail
  refine (zAa HIX).mono ?_
  rintro _ w2 ⟨rfl, hb2⟩
  have HB2 := hide hb2
  clear hb2
  go_wp2_with fail
  go_ret
  refine ⟨_, rfl, ?_, Only.of_below (zAa HB2) (fun x hx h => by omega), fun k hk => hk⟩
  rw [hk, zAa HL]
  have hb := zAa HB2
  exact (zAa HO).kept (row := none) ⟨hb.os, hb.tape, hb.output, hb.size, fun k hk _ => hb.block k hk⟩ (Classical.em _)
 ·rw [h1, Nat.zero_add] at HIX
  rcases hown.2 with ⟨hv, hx⟩ | ⟨g, cap, cur, hv, hbg, hblk, hnc, hcm, hcs, htk⟩
  ·omega
  ·injection hv with hA hn hc
   subst hA
   subst hc
   have hcur : cur = (((l.take i).flatMap Hd.cells) ++ [] ++ ((l.drop i).flatMap Hd.cells ++ cur.toList.drop (n * 3))).toArray := by
    rw [← Array.toList_inj]
    simp only [List.append_nil]
    rw [← List.append_assoc, ← List.flatMap_append, List.take_append_drop, ← htk, List.take_append_drop]
   have hrow : HDel g w (l.take i) [] (l.drop i) (cur.toList.drop (n * 3)) := by
    unfold HDel
    rw [← hcur]
    exact hblk
   have hilen : i < n := by rw [← hl]; exact hi0
   have hlti : (l.take i).length = i := by rw [List.length_take]; omega
   rw [zCb l i e h3] at hrow
   have hrow1 := hrow.skip
   rw [List.nil_append] at hrow1
   have HROW := hide hrow1
   have hglt : g < w.heap.size := Blk.lt hblk
   obtain ⟨T, hT⟩ : ∃ T, T = cur.toList.drop (n * 3) := ⟨_, rfl⟩
   have HTL := hide (show n * 3 + T.length = c * 3 by rw [hT, List.length_drop, Array.length_toList, hcs]; omega)
   rw [← hT] at HROW
   have hfil : (l.take i) ++ (l.drop (i + 1)).filter (fun e => !f e) = l.filter (fun e => !f e) := by
    conv => rhs; rw [← List.take_append_drop i l, List.filter_append, zRy f _ h2, zCb l i e h3, List.filter_cons, h4]
    simp
   have HFIL := hide hfil
   have HLT := hide hlti
   clear hown hcur hrow hrow1 hblk htk hl h1 h2 h3 h4 hfil hlti hi0 hcs hT
   go_enter Tryz.func123, Tryz.ntmps123
   go_wp2_with fail
   refine (zAa HIX).mono ?_
   rintro _ w2 ⟨rfl, hb2⟩
   have HROW2 := hide (show HDel g w2 (l.take i) (Hd.cells e) (l.drop (i + 1)) T from Blk.below (zAa HROW) hb2 hglt)
   have HB2 := hide (Only.of_below (D := fun k => (Value.slice (some ⟨g, 0, none⟩) n c).ownBlock = some k) hb2 (fun x hx h => by omega))
   have hglt2 : g < w2.heap.size := Nat.lt_of_lt_of_le hglt hb2.size
   clear hb2 HROW HIX
   go_wp2_with fail
   have hbe : ((i : Int) == -1) = false := by rw [beq_eq_false_iff_ne]; omega
   rw [hbe]
   clear hbe
   go_loopw [5, 6] (fun x y wr => ∃ (p j : Nat) (kept : List Hd) (M : List Value), p < j ∧ j ≤ n ∧ x = .int .i64 p ∧ y = .int .i64 j ∧ g < wr.heap.size ∧ Only (fun k => (Value.slice (some ⟨g, 0, none⟩) n c).ownBlock = some k) w wr ∧ Hid (kept.length = p ∧ M.length = (j - p) * 3 ∧ HDel g wr kept M (l.drop j) T ∧ kept ++ (l.drop j).filter (fun e => !f e) = l.filter (fun e => !f e))) (fun _ y _ => n - (intOf y).toNat)
   case atStart => exact ⟨i, i + 1, l.take i, Hd.cells e, by omega, by omega, rfl, by go_num, hglt2, zAa HB2, zAa HLT, by rw [show i + 1 - i = 1 by omega]; rfl, zAa HROW2, zAa HFIL⟩
   case round =>
    obtain ⟨p, j, kept, M, hpj, hjn, rfl, rfl, hgw, hb, HI⟩ := hrel
    by_cases hlt : j < n
    ·obtain ⟨d, hd⟩ : ∃ d, l[j]? = some d := ⟨_, List.getElem?_eq_getElem (by rw [zAa HL]; exact hlt)⟩
     have HI2 := hide (show kept.length = p ∧ M.length = (j - p) * 3 ∧ HDel g wr kept M (d :: l.drop (j + 1)) T ∧ kept ++ (d :: l.drop (j + 1)).filter (fun e => !f e) = l.filter (fun e => !f e) by
      have h := zAa HI
      rwa [zCb l j d hd] at h)
     have hKM : (kept.flatMap Hd.cells ++ M).length = j * 3 := by
      rw [List.length_append, zHj, (zAa HI2).1, (zAa HI2).2.1]; omega
     have c0 : wr.cell? ⟨g, j * 3, none⟩ = some (.int .i64 d.id) := (zAa HI2).2.2.1.cell j hKM 0 _ rfl
     have c1 : wr.cell? ⟨g, j * 3 + 1, none⟩ = some (.int .i64 d.count) := (zAa HI2).2.2.1.cell j hKM 1 _ rfl
     have c2 : wr.cell? ⟨g, j * 3 + 2, none⟩ = some (.int .i64 d.life) := (zAa HI2).2.2.1.cell j hKM 2 _ rfl
     have HBB := hide hb
     have H2 := hide (zAa H d)
     clear HI hd hKM hb
     cases hf : f d with
     | true =>
      rw [hf] at H2
      have HI3 := hide (show kept ++ (l.drop (j + 1)).filter (fun e => !f e) = l.filter (fun e => !f e) by
       have h := (zAa HI2).2.2.2
       rw [List.filter_cons, hf] at h
       simpa using h)
      have HR3 := hide (zAa HI2).2.2.1.skip
      have HM3 := hide (show (M ++ Hd.cells d).length = (j + 1 - p) * 3 by rw [List.length_append, (zAa HI2).2.1]; simp [Hd.cells]; omega)
      have HK3 := hide (zAa HI2).1
      clear HI2
      go_wp2_with fail
      refine (zAa H2 _).mono ?_
      rintro _ w3 ⟨rfl, hb3⟩
      have hs3 := hb3.size
      simp at hs3
      have HB3 := hide (((zAa HBB).alloc _).calm hb3)
      have HR4 := hide (show HDel g w3 kept (M ++ Hd.cells d) (l.drop (j + 1)) T from Blk.below (Blk.alloc (zAa HR3) _) hb3 (by simp; omega))
      clear hb3 HR3 HBB
      go_wp2_with fail
      go_roundw
      case rel => exact ⟨p, j + 1, kept, M ++ Hd.cells d, by omega, by omega, rfl, by go_num, by omega, zAa HB3, zAa HK3, zAa HM3, zAa HR4, zAa HI3⟩
      case measure => simp [intOf]; omega
     | false =>
      rw [hf] at H2
      have hM5 : 3 ≤ M.length := by rw [(zAa HI2).2.1]; omega
      have HI3 := hide (show (kept ++ [d]) ++ (l.drop (j + 1)).filter (fun e => !f e) = l.filter (fun e => !f e) by
       have h := (zAa HI2).2.2.2
       rw [List.filter_cons, hf] at h
       simpa using h)
      have HR3 := hide (zAa HI2).2.2.1
      have HM3 := hide (show (M.drop 3 ++ Hd.cells d).length = (j + 1 - (p + 1)) * 3 by rw [List.length_append, List.length_drop, (zAa HI2).2.1]; simp [Hd.cells]; omega)
      have HK3 := hide (zAa HI2).1
      have HM5 := hide hM5
      clear HI2 hM5
      go_wp2_with fail
      refine (zAa H2 _).mono ?_
      rintro _ w3 ⟨rfl, hb3⟩
      have hs3 := hb3.size
      simp at hs3
      have HB3 := hide (((zAa HBB).alloc _).calm hb3)
      have HR4 := hide (show HDel g w3 kept M (d :: l.drop (j + 1)) T from Blk.below (Blk.alloc (zAa HR3) _) hb3 (by simp; omega))
      have hvar := Blk.below (Blk.new wr 161 #[.int .i64 d.id, .int .i64 d.count, .int .i64 d.life]) hb3 (by simp)
      have v0 : w3.cell? ⟨wr.heap.size, 0, none⟩ = some (.int .i64 d.id) := hvar.cell 0
      have v1 : w3.cell? ⟨wr.heap.size, 1, none⟩ = some (.int .i64 d.count) := hvar.cell 1
      have v2 : w3.cell? ⟨wr.heap.size, 2, none⟩ = some (.int .i64 d.life) := hvar.cell 2
      have hst : ∀ r, r < 3 → ∃ u, w3.cell? ⟨g, p * 3 + r, none⟩ = some u := fun r hr => by
       have h := Blk.cell (zAa HR4) (p * 3 + r)
       have hkl := zHj kept
       rw [zAa HK3] at hkl
       have hM := zAa HM5
       rw [h]
       simp only [List.getElem?_toArray]
       exact ⟨_, List.getElem?_eq_getElem (by simp only [List.length_append, hkl]; omega)⟩
      obtain ⟨u0, s0⟩ := hst 0 (by omega)
      obtain ⟨u1, s1⟩ := hst 1 (by omega)
      obtain ⟨u2, s2⟩ := hst 2 (by omega)
      rw [Nat.add_zero] at s0
      have z0 : w3.frozen? ⟨g, p * 3, none⟩ = false := Blk.frozen (zAa HR4) _
      have z1 : w3.frozen? ⟨g, p * 3 + 1, none⟩ = false := Blk.frozen (zAa HR4) _
      have z2 : w3.frozen? ⟨g, p * 3 + 2, none⟩ = false := Blk.frozen (zAa HR4) _
      have HR5 := hide ((zAa HR4).put p (zAa HK3) (zAa HM5))
      have HB5 := hide (zGw (g := g) (Hd.cells d) (p * 3) w3 (zAa HB3) rfl)
      clear hb3 HR3 HBB hvar hst HR4
      have hpn : (p : Int) < (n : Int) := by omega
      go_wp2_with fail
      go_roundw
      case rel => exact ⟨p + 1, j + 1, kept ++ [d], M.drop 3 ++ Hd.cells d, by omega, by omega, by go_num, by go_num, by simp; omega, zAa HB5, by rw [List.length_append, zAa HK3]; rfl, zAa HM3, zAa HR5, zAa HI3⟩
      case measure => simp [intOf]; omega
    ·obtain rfl : j = n := by omega
     obtain ⟨i0, hi, hz0, hz1, hz2⟩ := zNm
     have hI := zAa HI
     have hdl : l.drop j = [] := List.drop_of_length_le (by rw [zAa HL]; exact Nat.le_refl _)
     rw [hdl] at hI
     obtain ⟨hK, hM, hRow, hF⟩ := hI
     simp only [List.filter_nil, List.append_nil] at hF
     have hkl := zHj kept
     rw [hK] at hkl
     have hlen : ((kept.flatMap Hd.cells ++ M ++ (([] : List Hd).flatMap Hd.cells ++ T))).length = c * 3 := by
      have := zAa HTL
      simp only [List.length_append, hkl, hM, List.flatMap_nil, List.length_nil]
      omega
     obtain ⟨zs, hzl, hclr⟩ := zLf (P := Tryz.prog) wr 82 161 i0 _ 3 Tryz.underlying82 hi hz0 rfl (by intro u hu; simp [Value.cells] at hu; rcases hu with rfl | rfl <;> rfl) g (p * 3) (j - p) (c - p) (by omega)
      (fun r hr => by
       rw [Blk.cell hRow, List.getElem?_toArray, List.getElem?_eq_getElem (by rw [hlen]; have := zAa HTL; omega)]
       rfl)
      (fun r hr => Blk.frozen hRow _)
     have hpn : (p : Int) < (j : Int) := by omega
     have hpc : (p : Int) ≤ (c : Int) := by omega
     have hjc : (j : Int) ≤ (c : Int) := by omega
     have HB5 := hide (zGw (g := g) zs (p * 3) wr hb rfl)
     have hrow2 : Blk (wr.setCells g (p * 3) zs) g 161 (kept.flatMap Hd.cells ++ zs ++ T).toArray := by
      have h := Blk.setCells_ zs (kept.flatMap Hd.cells) M T wr (by
       have h0 := hRow
       unfold HDel at h0
       simpa using h0) (by rw [hM, hzl])
      rwa [hkl] at h
     have HO := hide (show (wr.setCells g (p * 3) zs).ownsRow base 161 3 (.slice (some ⟨g, 0, none⟩) p c) p (kept.flatMap Hd.cells) from
      ⟨hkl, .inr ⟨g, c, _, rfl, hbg, hrow2, by omega, hcm, by
       have := hlen
       simp only [List.length_append, hM, List.flatMap_nil, List.length_nil] at this
       simp only [List.size_toArray, List.length_append, hzl]
       omega, by
       show (kept.flatMap Hd.cells ++ zs ++ T).take (p * 3) = _
       rw [List.append_assoc, List.take_append_of_le_length (by omega), List.take_of_length_le (by omega)]⟩⟩)
     have HK := hide hK
     have HFF := hide hF
     clear hRow hrow2 hlen hzl hM hkl hdl HI hb hK hF
     go_wp2_with fail
     go_ret
     refine ⟨_, rfl, ?_, zAa HB5, fun k hk => hk⟩
     rw [← zAa HFF, zAa HK]
     exact zAa HO
end
section
open Go.RowKit
theorem zIz {base g n cap size : Nat} {e : TypeId} {xs : List Value} : ∀ (zs : List Value) (o : Nat) (w : World), w.ownsRow base e size (.slice (some ⟨g, 0, none⟩) n cap) n xs → n * size ≤ o → (w.setCells g o zs).ownsRow base e size (.slice (some ⟨g, 0, none⟩) n cap) n xs
 | [], o, w, h, ho => h
 | z :: zs, o, w, h, ho => by
  have h1 := h.stored o z
  rw [List.set_eq_of_length_le (by rw [h.1]; exact ho)] at h1
  exact zIz zs (o + 1) _ h1.1 (by omega)
theorem hd_one (l : List Hd) : ∀ u ∈ l.flatMap Hd.cells, u.oneCell' = true := by
 intro u hu
 obtain ⟨e, _, he⟩ := List.mem_flatMap.1 hu
 simp [Hd.cells] at he
 rcases he with rfl | rfl | rfl <;> rfl
def HdPost (base : Nat) (v0 : Value) (l : List Hd) (w : World) (e : Ending) (w' : World) : Prop :=
 ∃ v, e = .returned v ∧ w'.ownsRow base 161 3 v l.length (l.flatMap Hd.cells) ∧ Only (fun k => v0.ownBlock = some k) w w' ∧ ∀ k, v.ownBlock = some k → v0.ownBlock = some k
set_option maxRecDepth 100000 in
set_option maxHeartbeats 1000000 in
theorem zVj (base : Nat) (A : Option Addr) (m c i : Nat) (l : List Hd) (w : World) (him : i ≤ m) (hm : m ≤ 1000) (hown : w.ownsRow base 161 3 (.slice A (m + 1) c) (m + 1) (l.flatMap Hd.cells)) (hl : l.length = m + 1) :
    Calls Tryz.prog 142 #[.slice A (m + 1) c, .int .i64 i, .int .i64 (i + 1)] w (HdPost base (.slice A (m + 1) c) (l.take i ++ l.drop (i + 1)) w) := by
 obtain ⟨i0, hi, hz0, hz1, hz2⟩ := zNm
 obtain ⟨g, cap, hv, hbg, hglt⟩ := hown.form (by omega)
 injection hv with hA hn hc
 clear hn
 subst hA hc
 obtain ⟨_, hnc, hcm⟩ := zCx hown
 have b1 : (i : Int) ≤ (i : Int) + 1 := by omega
 have b2 : (i : Int) + 1 ≤ (m : Int) + 1 := by omega
 have b2' : (i : Int) ≤ (m : Int) := by omega
 have b3 : (m : Int) + 1 ≤ (c : Int) := by omega
 have b4 : ((i : Int) == (i : Int) + 1) = false := by simp; omega
 have b5 : ¬ c = m := by omega
 have htk := own_take hown (show i ≤ m + 1 by omega)
 rw [zNa Hd.cells_len] at htk
 have hdl : ((l.drop (i + 1)).flatMap Hd.cells).length = (m - i) * 3 := by rw [zHy Hd.cells_len, List.length_drop, hl, Nat.add_sub_add_right]
 have hdc : ∀ ad, (if c = i + 1 then some (⟨g, 0, none⟩ : Addr) else some ⟨g, (i + 1) * 3, none⟩) = some ad → ∀ j u, ((l.drop (i + 1)).flatMap Hd.cells)[j]? = some u → w.cell? (ad.add j) = some u := by
  intro ad had j u hj
  have hjl := (List.getElem?_eq_some_iff.1 hj).1
  rw [hdl] at hjl
  rw [if_neg (by omega)] at had
  injection had with had
  subst had
  rw [← zNl Hd.cells_len, List.getElem?_drop] at hj
  rw [Addr.add_lit]
  exact zEz hown ((i + 1) * 3 + j) hj
 have HTK := hide htk
 have HDL := hide hdl
 have HDC := hide hdc
 have hroom : i + (m - i) ≤ c := by omega
 have hnone : (if c = i + 1 then some (⟨g, 0, none⟩ : Addr) else some ⟨g, (i + 1) * 3, none⟩) = none → m - i = 0 ∧ c - (i + 1) = 0 := by split <;> (intro h; cases h)
 have HNONE := hide hnone
 have he : i + (m - i) = m := by omega
 have HE := hide he
 have HLN := hide (show (l.take i ++ l.drop (i + 1)).length = m by simp; omega)
 unfold maxLen at hcm
 clear hown hl htk hdl hdc hnone he
 go_enter Tryz.func142, Tryz.ntmps142
 go_wp2_with fail
 refine zCn [0, 1, 3, 4] [2, 5] [] [] 6 [7] (by kernel_rfl) (by kernel_rfl) (by intro c a d v w h; cases d <;> exact h) ?_
 simp only [zAb, List.map_cons, List.map_nil, List.getD_cons_zero, List.getD_cons_succ]
 repeat (go_big_quiet_step (fail))
 refine wpQuiet_nil ?_
 repeat (go_big_quiet_step (fail))
 refine wpQuiet_nil (wpQuiet_nil ?_)
 rintro _ ⟨nq, rfl⟩
 simp only [wpAl]
 generalize (if c = i + 1 then some (⟨g, 0, none⟩ : Addr) else some ⟨g, (i + 1) * 3, none⟩) = ao at *
 refine wpList_append_fits_any _ rfl (.tmp 22) (.tmp 25) _ rfl base 161 i0 3 Tryz.underlying82 hi hz1 g i c ((l.take i).flatMap Hd.cells) rfl (zAa HTK) _ (m - i) _ ((l.drop (i + 1)).flatMap Hd.cells) rfl (zAa HDL) (zAa HNONE) (zAa HDC) (hd_one _) hroom ?_
 intro w4 hown4 hgr4
 rw [zAa HE] at hown4 ⊢
 rw [← List.flatMap_append] at hown4
 obtain ⟨zs, hzl, hclr⟩ := zLf (P := Tryz.prog) w4 82 161 i0 _ 3 Tryz.underlying82 hi hz0 rfl (by intro u hu; simp [Value.cells] at hu; rcases hu with rfl | rfl <;> rfl) g (m * 3) 1 (c - m) (by omega)
  (fun r hr => (zLx hown4 (m * 3 + r) (by omega)).1) (fun r hr => (zLx hown4 (m * 3 + r) (by omega)).2)
 have HOW := hide (zIz zs (m * 3) w4 hown4 (Nat.le_refl _))
 have hO4 : Only (fun k => (Value.slice (some ⟨g, 0, none⟩) (m + 1) c).ownBlock = some k) w w4 := Only.grown ((Only.refl _ w).drewN nq) hgr4 (fun x hx _ => by injection hx with hx; subst hx; rfl)
 have HOO := hide (zGw (g := g) zs (m * 3) w4 hO4 rfl)
 clear hO4 hown4 hgr4 hzl
 go_wp2_with fail
 go_ret
 exact ⟨_, rfl, by rw [zAa HLN]; exact zAa HOW, zAa HOO, fun k hk => hk⟩
end
section
open Go.RowKit
theorem yDw {s : Shf} {id : Int} {b : Bool} (h : ¬ (id < 1 ∨ s.made < id)) (hf : ∀ x ∈ s.opn, (x.id == id) = false) : zEf s id b = (s, 10) := by
 unfold zEf
 rw [if_neg h]
 have : s.opn.find? (fun h => h.id == id) = none := List.find?_eq_none.2 fun x hx => by rw [hf x hx]; simp
 rw [this]
theorem shut_at {s : Shf} {K id : Int} {b : Bool} (hk : s.ok K) (h : ¬ (id < 1 ∨ s.made < id)) {i : Nat} {x : Hd} (hx : s.opn[i]? = some x) (hid : (x.id == id) = true) (hf : ∀ y ∈ s.opn.take i, (y.id == id) = false) :
    zEf s id b = (⟨if b then s.free else s.free + x.count, if b then s.used + x.count else s.used, s.made, s.opn.take i ++ s.opn.drop (i + 1)⟩, 0) := by
 have hl : s.opn = s.opn.take i ++ x :: s.opn.drop (i + 1) := by rw [← zCb s.opn i x hx, List.take_append_drop]
 have hfi : s.opn.find? (fun h => h.id == id) = some x := by
  rw [hl, List.find?_append, List.find?_eq_none.2 fun y hy => by rw [hf y hy]; simp]
  simp [hid]
 have hids := hk.ids
 have hfl : (s.opn.filter fun h => !(h.id == id)) = s.opn.take i ++ s.opn.drop (i + 1) := by
  have h2 : ∀ y ∈ s.opn.drop (i + 1), (y.id == id) = false := fun y hy => by
   rw [hl, List.map_append, List.pairwise_append, List.map_cons, List.pairwise_cons] at hids
   have := hids.2.1.1 y.id (List.mem_map.2 ⟨y, hy, rfl⟩)
   have e : x.id = id := by simpa using hid
   simp; omega
  conv => lhs; rw [hl]
  rw [List.filter_append, List.filter_cons, hid, List.filter_eq_self.2 fun y hy => by rw [hf y hy]; rfl, List.filter_eq_self.2 fun y hy => by rw [h2 y hy]; rfl]
  simp
 unfold zEf
 rw [if_neg h, hfi, hfl]
def ClPost (base g o : Nat) (cs : Array Value) (v : Value) (w : World) (r : Shf × Int) (e : Ending) (w' : World) : Prop :=
 ∃ v', e = .returned (.int .i64 r.2) ∧ ShAt w' base g o (putAt cs o (r.1.cells v')) r.1 v' ∧ Only (fun k => k = g ∨ v.ownBlock = some k) w w' ∧ (∀ k, v'.ownBlock = some k → v.ownBlock = some k ∨ w.heap.size ≤ k)
theorem zKq {base g o : Nat} {cs : Array Value} {s : Shf} {v : Value} {w w' : World} {a : Int} (h : ShAt w' base g o cs s v) (hb : Below w.heap.size w w') : ClPost base g o cs v w (s, a) (.returned (.int .i64 a)) w' :=
 ⟨v, rfl, by rw [zMf cs o _ h.has]; exact h, Only.of_below hb fun x hx hB => by omega, fun k hk => .inl hk⟩
theorem zWn (x : Hd) (q : Nat) (id : Int) (w : World) (hq : w.cell? ⟨q, 0, none⟩ = some (.int .i64 id)) :
    Calls Tryz.prog 141 #[.agg #[.int .i64 x.id, .int .i64 x.count, .int .i64 x.life], .pointer (some ⟨q, 0, none⟩)] w fun e w' => e = .returned (.bool (x.id == id)) ∧ Below w.heap.size w w' := by
 obtain ⟨a, b, c⟩ := x
 have hlt : q < w.heap.size := by
  refine Nat.not_le.1 fun hc => ?_
  have : w.heap[q]? = none := Array.getElem?_eq_none hc
  unfold World.cell? at hq
  simp [this] at hq
 have hq2 := (World.cell?_alloc_lt w (.cells #[.int .i64 a, .int .i64 b, .int .i64 c] 161) ⟨q, 0, none⟩ hlt).trans hq
 clear hq
 go_enter Tryz.func141, Tryz.ntmps141
 go_wp2_with fail
 go_ret
 exact ⟨rfl, (Below.refl _ _).alloc (Nat.le_refl _) _⟩
theorem zPu (args : Array Value) (W : World) : (callFunc 141 args).run Tryz.prog W = .ok (.enter 141 args) W :=
 zDh Tryz.func141 (by kernel_rfl) rfl args W
def zHl (b : Bool) (o : Nat) : Nat := if b then o + 1 else o
theorem ShAt.gain_ {w : World} {base g o : Nat} {cs : Array Value} {s : Shf} {v : Value} (h : ShAt w base g o cs s v) (b : Bool) (x : Int) : ShAt (w.setCell ⟨g, zHl b o, none⟩ (.int .i64 x)) base g o (putAt cs o ((⟨if b then s.free else x, if b then x else s.used, s.made, s.opn⟩ : Shf).cells v)) ⟨if b then s.free else x, if b then x else s.used, s.made, s.opn⟩ v := by
 cases b
 ·exact h.free_ x
 ·exact h.used_ x
theorem ShAt.cg {w : World} {base g o : Nat} {cs : Array Value} {s : Shf} {v : Value} (h : ShAt w base g o cs s v) (b : Bool) : w.cell? ⟨g, zHl b o, none⟩ = some (.int .i64 (if b then s.used else s.free)) := by
 cases b
 ·exact h.c0
 ·exact h.c1
set_option maxRecDepth 100000 in
set_option maxHeartbeats 1000000 in
theorem zKu (base g o : Nat) (cs : Array Value) (s : Shf) (v : Value) (w : World) (id : Int) (b : Bool) (K : Int) (h : ShAt w base g o cs s v) (hs : s.ok K) (hK : K ≤ 1000000) (hB : base ≤ w.heap.size) :
    Calls Tryz.prog 121 #[.pointer (some ⟨g, o, none⟩), .int .i64 id, .pointer (some ⟨g, zHl b o, none⟩)] w (ClPost base g o cs v w (zEf s id b)) := by
 obtain ⟨wx, hwx⟩ : ∃ wx, wx = w.alloc (.cells #[.int .i64 id] 3) := ⟨_, rfl⟩
 have hbx : Below w.heap.size w wx := by rw [hwx]; exact (Below.refl _ _).alloc (Nat.le_refl _) _
 have k0 : Blk wx w.heap.size 3 #[.int .i64 id] := by rw [hwx]; exact Blk.new w 3 _
 have hx := h.calm hbx
 have q0 := k0.cell 0
 have c2 := hx.c2
 have c3 := hx.c3
 have q0a := q0
 have c2a := c2
 have c3a := c3
 rw [hwx] at q0a c2a c3a
 have hm0 := hs.made0
 have hmK := hs.madeK
 have hll := hs.len
 have HX := hide hx
 have HBX := hide hbx
 have HWX := hide hwx
 have HS := hide hs
 obtain ⟨A, c, rfl, hnc⟩ := zAf h.own
 have HK0 := hide k0
 have hne : g ≠ w.heap.size := by have := h.blk.lt; omega
 have HNE := hide hne
 have hs0 := hs
 clear hx h hbx hs k0 hwx hne
 obtain ⟨m, hm⟩ : ∃ m, m = s.opn.length := ⟨_, rfl⟩
 have HM := hide hm
 rw [← hm] at c3 c3a hll hnc
 clear hm
 by_cases h1 : id < 1
 ·have HF := hide (show zEf s id b = (s, 6) by unfold zEf; rw [if_pos (.inl h1)])
  have hd1 : decide (id < 1) = true := decide_eq_true h1
  go_enter Tryz.func121, Tryz.ntmps121
  go_wp2_with fail
  rw [← zAa HWX]
  go_quiet (fail)
  go_wp2_with fail
  go_ret
  rw [zAa HF]
  exact zKq ((zAa HX).calm (below_drewN (Below.refl _ _) nq)) (below_drewN (zAa HBX) nq)
 have hd1 : decide (id < 1) = false := decide_eq_false h1
 have h1' : 1 ≤ id := by omega
 by_cases h2 : s.made < id
 ·have HF := hide (show zEf s id b = (s, 6) by unfold zEf; rw [if_pos (.inr h2)])
  clear h1
  go_enter Tryz.func121, Tryz.ntmps121
  go_wp2_with fail
  rw [← zAa HWX]
  go_quiet (fail)
  go_wp2_with fail
  go_ret
  rw [zAa HF]
  exact zKq ((zAa HX).calm (below_drewN (Below.refl _ _) nq)) (below_drewN (zAa HBX) nq)
 have hnr : ¬ (id < 1 ∨ s.made < id) := by omega
 have h2' : id ≤ s.made := by omega
 have HIX := hide (fun W (hW : Below wx.heap.size wx W) => zUn 141 (.pointer (some ⟨w.heap.size, 0, none⟩)) (fun h => h.id == id) A m c s.opn W.heap.size W (zAa HM).symm (by omega) (by have := Reads.of_own ((zAa HX).calm hW).own; rwa [← zAa HM] at this) (Nat.le_refl _) zPu
  (fun e W2 hW2 => zWn e w.heap.size id W2 (((zAa HK0).below (hW.trans (hW2.mono hW.size)) (zAa HK0).lt).cell 0)))
 rcases zNo (fun h : Hd => h.id == id) s.opn 0 with ⟨e1, e2⟩ | ⟨i, x, e0, e1, e2, e3, e4⟩
 ·have HF := hide (show zEf s id b = (s, 10) from yDw hnr e2)
  rw [e1] at HIX
  clear h1 h2 e2 hnr e1
  go_enter Tryz.func121, Tryz.ntmps121
  go_wp2_with fail
  rw [← zAa HWX]
  go_quiet (fail)
  go_wp2_with fail
  refine (zAa HIX _ (below_drewN (Below.refl _ _) nq)).mono ?_
  rintro _ w3 ⟨rfl, hb3⟩
  have HB3 := hide (show Below wx.heap.size wx w3 from (below_drewN (Below.refl _ _) nq).trans hb3)
  clear hb3
  go_wp2_with fail
  go_ret
  rw [zAa HF]
  exact zKq ((zAa HX).calm (zAa HB3)) ((zAa HBX).trans ((zAa HB3).mono (zAa HBX).size))
 ·have HF := hide (shut_at (b := b) hs0 hnr e3 e4 e2)
  rw [e1, Nat.zero_add] at HIX
  rw [← zAa HM] at e0
  have hx0 := (zAa HS).each x (List.mem_of_getElem? e3)
  obtain ⟨_, _, hx1, hx2, _, _⟩ := hx0
  have htv : 0 ≤ (if b then s.used else s.free) ∧ (if b then s.used else s.free) ≤ 1048576 := by
   have a1 := (zAa HS).all
   have a2 := (zAa HS).used0
   have a3 := (zAa HS).free0
   have a4 : 0 ≤ zAq s.opn := zGe fun x hx => by have := (zAa HS).each x hx; omega
   split <;> omega
  obtain ⟨tv, htv0⟩ : ∃ tv, tv = (if b then s.used else s.free) := ⟨_, rfl⟩
  rw [← htv0] at htv
  obtain ⟨htv1, htv2⟩ := htv
  have HTV := hide htv0
  obtain ⟨gg, cap, hv, hbg, hglt⟩ := (zAa HX).own.form (by rw [← zAa HM]; omega)
  injection hv with hA hn hcc
  subst hA
  clear hn hcc htv0
  obtain ⟨m', rfl⟩ : ∃ m', m = m' + 1 := ⟨m - 1, by omega⟩
  have E3 := hide e3
  have HLN := hide (show (s.opn.take i ++ s.opn.drop (i + 1)).length = m' by simp; have := zAa HM; omega)
  have him : i ≤ m' := by omega
  have hi0 : (i : Int) < (m' : Int) + 1 := by omega
  have hi1 : ¬ ((i : Int) < 0) := by omega
  have hmc : (m' : Int) + 1 ≤ (c : Int) := by omega
  clear h1 h2 e2 hnr e1 e3 e4
  go_enter Tryz.func121, Tryz.ntmps121
  go_wp2_with fail
  rw [← zAa HWX]
  go_quiet (fail)
  go_wp2_with fail
  refine (zAa HIX _ (below_drewN (Below.refl _ _) nq)).mono ?_
  rintro _ w3 ⟨rfl, hb3⟩
  have HB3 := hide (show Below wx.heap.size wx w3 from (below_drewN (Below.refl _ _) nq).trans hb3)
  have hx3 := (zAa HX).calm (zAa HB3)
  have HX3 := hide hx3
  have d3 := hx3.c3
  rw [← zAa HM] at d3
  have dg := hx3.cg b
  rw [← zAa HTV] at dg
  have de := zEz hx3.own (i * 3 + 1) (by rw [zEk Hd.cells 3 Hd.cells_len _ i 1 (by omega), zAa E3]; rfl)
  have df := hx3.fr (zHl b o)
  have hg3 : ¬ zHl b o = o + 3 := by unfold zHl; split <;> omega
  have hg3' : ¬ o + 3 = zHl b o := by omega
  clear hb3 c2 c3 q0 q0a c2a c3a hx3
  go_wp2_with fail
  refine zCo 13 (by kernel_rfl) (by kernel_rfl) ?_
  simp only [List.take_succ_cons, List.take_zero, List.drop_succ_cons, List.drop_zero]
  repeat (go_big_quiet_step (fail))
  refine wpQuiet_nil ?_
  rintro _ ⟨nq2, rfl⟩
  go_wp2_with fail
  have hx4 := ((zAa HX3).calm (below_drewN (Below.refl _ _) nq2)).gain_ b (tv + x.count)
  obtain ⟨w4, hw4⟩ : ∃ w4, w4 = (w3.drewN nq2).setCell ⟨g, zHl b o, none⟩ (.int .i64 (tv + x.count)) := ⟨_, rfl⟩
  rw [← hw4] at hx4 ⊢
  have hO4 : Only (fun k => k = g) w3 w4 := by rw [hw4]; exact Only.setCell (D := fun k => k = g) ((Only.refl _ w3).drewN nq2) (p := ⟨g, zHl b o, none⟩) (fun _ => rfl) _
  have HX4 := hide hx4
  have HO4 := hide hO4
  have hdel := zVj base (some ⟨gg, 0, none⟩) m' c i s.opn w4 him (by omega) (by have := hx4.own; rwa [← zAa HM] at this) (zAa HM).symm
  have HDEL := hide hdel
  clear hx4 hO4 hdel hw4 d3 dg de df
  refine (zAa HDEL).mono ?_
  rintro _ w5 ⟨v5, rfl, hown5, hO5, hat5⟩
  obtain ⟨A5, c5, hv5, _⟩ := zAf hown5
  rw [zAa HLN] at hv5
  subst hv5
  have hM5 := (zAa HX4).blk.only hO5 (by have := (zAa HX4).ne; rw [← zAa HM] at this; exact this)
  have hfin := ShAt.open_ (zAa HX4) hM5 hown5
  rw [zGb _ _ _ _ (by simp [Shf.cells])] at hfin
  have u3 := hM5.at_ (zAa HX4).has 3 rfl
  have f3 := hM5.frozen (o + 3)
  have HFIN := hide hfin
  have HO5 := hide hO5
  have HAT5 := hide hat5
  clear hown5 hO5 hat5 hM5 hfin
  go_wp2_with fail
  go_ret
  rw [zAa HF]
  have hfin := zAa HFIN
  rw [zAa HTV] at hfin
  refine ⟨.slice A5 m' c5, rfl, ?_, ?_, fun k hk => .inl ?_⟩
  ·cases b
   ·exact hfin
   ·exact hfin
  ·have h1 : Only (fun k => k = g ∨ Value.ownBlock (.slice (some ⟨gg, 0, none⟩) s.opn.length c) = some k) w wx := Only.of_below (zAa HBX) fun x hx hB => by omega
   exact Only.setCell ((((h1.calm (zAa HB3)).trans (zAa HO4) (fun x _ h => .inl h)).trans (zAa HO5) (fun x _ h => .inr h))) (fun _ => .inl rfl) _
  ·exact zAa HAT5 k hk
end
end Go.Proofs.YtbolcebmbpepdaaGreatDoor
