/- Contract of slices.DeleteFunc over entries of a row of the call's own. Conditions: none beyond what each theorem states. -/
import Derived.Test.YthmnfbnaeggknaaRegF
import Derived.Test.YthmnfbnaeggknaaCells
namespace Go.Proofs.Ythmnfbnaeggknaa
open Go.RowKit
set_option linter.unusedVariables false

theorem idx_spec (f : Ent → Bool) : ∀ (l : List Ent) (k : Nat), (idxP f l k = -1 ∧ ∀ e ∈ l, f e = false) ∨ ∃ i e, i < l.length ∧ idxP f l k = ((k + i : Nat) : Int) ∧ (∀ x ∈ l.take i, f x = false) ∧ l[i]? = some e ∧ f e = true
  | [], k => .inl ⟨rfl, by simp⟩
  | e :: l, k => by
    cases hf : f e with
    | true => exact .inr ⟨0, e, by simp, by rw [idxP, if_pos hf]; simp, by simp, rfl, hf⟩
    | false =>
      have e1 : idxP f (e :: l) k = idxP f l (k + 1) := by rw [idxP, if_neg (by rw [hf]; simp)]
      rcases idx_spec f l (k + 1) with ⟨h1, h2⟩ | ⟨i, x, h0, h1, h2, h3, h4⟩
      · exact .inl ⟨by rw [e1, h1], fun y hy => by rcases List.mem_cons.1 hy with rfl | hy; exact hf; exact h2 y hy⟩
      · refine .inr ⟨i + 1, x, by simp; omega, by rw [e1, h1]; congr 1; omega, ?_, by simpa using h3, h4⟩
        intro y hy
        rw [List.take_succ_cons] at hy
        rcases List.mem_cons.1 hy with rfl | hy
        · exact hf
        · exact h2 y hy
theorem keep_all (f : Ent → Bool) (l : List Ent) (h : ∀ e ∈ l, f e = false) : l.filter (fun e => !f e) = l :=
  List.filter_eq_self.2 fun e he => by rw [h e he]; rfl
theorem entCells_flat (l : List Ent) : (l.flatMap entCells).length = l.length * 5 := by
  induction l with
  | nil => rfl
  | cons e l ih => rw [List.flatMap_cons, List.length_append, ih, List.length_cons]; simp [entCells]; omega

def DelRow (g : Nat) (wr : World) (kept : List Ent) (M : List Value) (ds : List Ent) (T : List Value) : Prop := Blk wr g 25 (kept.flatMap entCells ++ M ++ (ds.flatMap entCells ++ T)).toArray
theorem DelRow.cell {g : Nat} {wr : World} {kept ds : List Ent} {M T : List Value} {e : Ent} (h : DelRow g wr kept M (e :: ds) T) (j : Nat) (hj : (kept.flatMap entCells ++ M).length = j * 5) (r : Nat) (v : Value) (hr : (entCells e)[r]? = some v) : wr.cell? ⟨g, j * 5 + r, none⟩ = some v := by
  rw [Blk.cell h]
  have hr5 : r < 5 := by
    have := (List.getElem?_eq_some_iff.1 hr).1
    simpa [entCells] using this
  simp only [List.getElem?_toArray]
  rw [List.getElem?_append_right (by omega), hj]
  rw [show j * 5 + r - j * 5 = r by omega, List.flatMap_cons, List.append_assoc, List.getElem?_append_left (by simpa [entCells] using hr5)]
  exact hr
theorem DelRow.skip {g : Nat} {wr : World} {kept ds : List Ent} {M T : List Value} {e : Ent} (h : DelRow g wr kept M (e :: ds) T) : DelRow g wr kept (M ++ entCells e) ds T := by
  unfold DelRow at h ⊢
  simpa [List.flatMap_cons] using h
theorem DelRow.put {g : Nat} {wr : World} {kept ds : List Ent} {M T : List Value} {e : Ent} (h : DelRow g wr kept M (e :: ds) T) (i : Nat) (hi : kept.length = i) (hM : 5 ≤ M.length) :
    DelRow g (wr.setCells g (i * 5) (entCells e)) (kept ++ [e]) (M.drop 5 ++ entCells e) ds T := by
  unfold DelRow at h ⊢
  have hs := Blk.setCells_ (entCells e) (kept.flatMap entCells) (M.take 5) (M.drop 5 ++ (entCells e ++ (ds.flatMap entCells ++ T))) wr (by
    have e1 : M.take 5 ++ M.drop 5 = M := List.take_append_drop 5 M
    have e2 : kept.flatMap entCells ++ M.take 5 ++ (M.drop 5 ++ (entCells e ++ (ds.flatMap entCells ++ T))) = kept.flatMap entCells ++ M ++ ((e :: ds).flatMap entCells ++ T) := by
      rw [List.flatMap_cons, List.append_assoc, ← List.append_assoc (M.take 5), e1]
      simp
    rw [e2]; exact h) (by simp [entCells]; omega)
  rw [entCells_flat, hi] at hs
  simpa using hs

set_option maxHeartbeats 1600000 in
theorem entDelete_any (fn : FuncId) (f : Ent → Bool) (base : Nat) (A : Option Addr) (n c : Nat) (l : List Ent) (w : World) (hm : n * 40 ≤ 140737488351232) (hown : w.ownsRow base 25 5 (.slice A n c) n (l.flatMap entCells)) (hl : l.length = n) (hB : base ≤ w.heap.size)
    (hrun : ∀ args W, (callFunc fn args).run Try.prog W = .ok (.enter fn args) W)
    (h : ∀ (e : Ent) W, Calls Try.prog fn #[.agg #[.int .i64 e.key, .int .i64 e.value, .int .i64 e.time, .int .i64 e.who, .bool e.gone]] W fun x w' => x = .returned (.bool (f e)) ∧ Below W.heap.size W w') :
    Calls Try.prog 25 #[.slice A n c, .func (.func fn) #[] #[]] w fun e w' => ∃ v, e = .returned v ∧ w'.ownsRow base 25 5 v (l.filter fun e => !f e).length ((l.filter fun e => !f e).flatMap entCells) ∧ Below base w w' := by
  have HIX := hide (entIndex_any fn f A n c l w.heap.size w hl hm (Reads.of_own hown) (Nat.le_refl _) hrun h)
  have H := hide h
  have HL := hide hl
  clear h
  rcases idx_spec f l 0 with ⟨h1, h2⟩ | ⟨i, e, hi0, h1, h2, h3, h4⟩
  · rw [h1] at HIX
    have hk := keep_all f l h2
    have HO := hide hown
    clear hown hl
    go_enter Try.func25, Try.ntmps25
    go_wp2_with fail
    refine (unhide HIX).mono ?_
    rintro _ w2 ⟨rfl, hb2⟩
    have HB2 := hide hb2
    clear hb2
    go_wp2_with fail
    go_ret
    refine ⟨_, rfl, ?_, (unhide HB2).mono hB⟩
    rw [hk, unhide HL]
    have hb := unhide HB2
    exact (unhide HO).kept (row := none) ⟨hb.os, hb.tape, hb.output, hb.size, fun k hk _ => hb.block k hk⟩ (Classical.em _)
  · rw [h1, Nat.zero_add] at HIX
    rcases hown.2 with ⟨hv, hx⟩ | ⟨g, cap, cur, hv, hbg, hblk, hnc, hcm, hcs, htk⟩
    · omega
    · injection hv with hA hn hc
      subst hA
      subst hc
      have hcur : cur = (((l.take i).flatMap entCells) ++ [] ++ ((l.drop i).flatMap entCells ++ cur.toList.drop (n * 5))).toArray := by
        rw [← Array.toList_inj]
        simp only [List.append_nil]
        rw [← List.append_assoc, ← List.flatMap_append, List.take_append_drop, ← htk, List.take_append_drop]
      have hrow : DelRow g w (l.take i) [] (l.drop i) (cur.toList.drop (n * 5)) := by
        unfold DelRow
        rw [← hcur]
        exact hblk
      have hilen : i < n := by rw [← hl]; exact hi0
      have hlti : (l.take i).length = i := by rw [List.length_take]; omega
      rw [drop_cons l i e h3] at hrow
      have hrow1 := hrow.skip
      rw [List.nil_append] at hrow1
      have HROW := hide hrow1
      have hglt : g < w.heap.size := Blk.lt hblk
      obtain ⟨T, hT⟩ : ∃ T, T = cur.toList.drop (n * 5) := ⟨_, rfl⟩
      have HTL := hide (show n * 5 + T.length = c * 5 by rw [hT, List.length_drop, Array.length_toList, hcs]; omega)
      rw [← hT] at HROW
      have hfil : (l.take i) ++ (l.drop (i + 1)).filter (fun e => !f e) = l.filter (fun e => !f e) := by
        conv => rhs; rw [← List.take_append_drop i l, List.filter_append, keep_all f _ h2, drop_cons l i e h3, List.filter_cons, h4]
        simp
      have HFIL := hide hfil
      have HLT := hide hlti
      clear hown hcur hrow hrow1 hblk htk hl h1 h2 h3 h4 hfil hlti hi0 hcs hT
      go_enter Try.func25, Try.ntmps25
      go_wp2_with fail
      refine (unhide HIX).mono ?_
      rintro _ w2 ⟨rfl, hb2⟩
      have HROW2 := hide (show DelRow g w2 (l.take i) (entCells e) (l.drop (i + 1)) T from Blk.below (unhide HROW) hb2 hglt)
      have HB2 := hide (hb2.mono hB)
      have hglt2 : g < w2.heap.size := Nat.lt_of_lt_of_le hglt hb2.size
      clear hb2 HROW HIX
      go_wp2_with fail
      have hbe : ((i : Int) == -1) = false := by rw [beq_eq_false_iff_ne]; omega
      rw [hbe]
      clear hbe
      go_loopw [5, 6] (fun x y wr => ∃ (p j : Nat) (kept : List Ent) (M : List Value), p < j ∧ j ≤ n ∧ x = .int .i64 p ∧ y = .int .i64 j ∧ g < wr.heap.size ∧ Below base w wr ∧ Hid (kept.length = p ∧ M.length = (j - p) * 5 ∧ DelRow g wr kept M (l.drop j) T ∧ kept ++ (l.drop j).filter (fun e => !f e) = l.filter (fun e => !f e))) (fun _ y _ => n - (intOf y).toNat)
      case atStart => exact ⟨i, i + 1, l.take i, entCells e, by omega, by omega, rfl, by go_num, hglt2, unhide HB2, unhide HLT, by rw [show i + 1 - i = 1 by omega]; rfl, unhide HROW2, unhide HFIL⟩
      case round =>
        obtain ⟨p, j, kept, M, hpj, hjn, rfl, rfl, hgw, hb, HI⟩ := hrel
        by_cases hlt : j < n
        · obtain ⟨d, hd⟩ : ∃ d, l[j]? = some d := ⟨_, List.getElem?_eq_getElem (by rw [unhide HL]; exact hlt)⟩
          have HI2 := hide (show kept.length = p ∧ M.length = (j - p) * 5 ∧ DelRow g wr kept M (d :: l.drop (j + 1)) T ∧ kept ++ (d :: l.drop (j + 1)).filter (fun e => !f e) = l.filter (fun e => !f e) by
            have h := unhide HI
            rwa [drop_cons l j d hd] at h)
          have hKM : (kept.flatMap entCells ++ M).length = j * 5 := by
            rw [List.length_append, entCells_flat, (unhide HI2).1, (unhide HI2).2.1]; omega
          have c0 : wr.cell? ⟨g, j * 5, none⟩ = some (.int .i64 d.key) := (unhide HI2).2.2.1.cell j hKM 0 _ rfl
          have c1 : wr.cell? ⟨g, j * 5 + 1, none⟩ = some (.int .i64 d.value) := (unhide HI2).2.2.1.cell j hKM 1 _ rfl
          have c2 : wr.cell? ⟨g, j * 5 + 2, none⟩ = some (.int .i64 d.time) := (unhide HI2).2.2.1.cell j hKM 2 _ rfl
          have c3 : wr.cell? ⟨g, j * 5 + 3, none⟩ = some (.int .i64 d.who) := (unhide HI2).2.2.1.cell j hKM 3 _ rfl
          have c4 : wr.cell? ⟨g, j * 5 + 4, none⟩ = some (.bool d.gone) := (unhide HI2).2.2.1.cell j hKM 4 _ rfl
          have HBB := hide hb
          have H2 := hide (unhide H d)
          clear HI hd hKM hb
          cases hf : f d with
          | true =>
            rw [hf] at H2
            have HI3 := hide (show kept ++ (l.drop (j + 1)).filter (fun e => !f e) = l.filter (fun e => !f e) by
              have h := (unhide HI2).2.2.2
              rw [List.filter_cons, hf] at h
              simpa using h)
            have HR3 := hide (unhide HI2).2.2.1.skip
            have HM3 := hide (show (M ++ entCells d).length = (j + 1 - p) * 5 by rw [List.length_append, (unhide HI2).2.1]; simp [entCells]; omega)
            have HK3 := hide (unhide HI2).1
            clear HI2
            go_wp2_with fail
            refine (unhide H2 _).mono ?_
            rintro _ w3 ⟨rfl, hb3⟩
            have hs3 := hb3.size
            simp at hs3
            have HB3 := hide (show Below base w w3 from ((unhide HBB).alloc (by have := (unhide HBB).size; omega) _).trans (hb3.mono (by have := (unhide HBB).size; simp; omega)))
            have HR4 := hide (show DelRow g w3 kept (M ++ entCells d) (l.drop (j + 1)) T from Blk.below (Blk.alloc (unhide HR3) _) hb3 (by simp; omega))
            clear hb3 HR3 HBB
            go_wp2_with fail
            go_roundw
            case rel => exact ⟨p, j + 1, kept, M ++ entCells d, by omega, by omega, rfl, by go_num, by omega, unhide HB3, unhide HK3, unhide HM3, unhide HR4, unhide HI3⟩
            case measure => simp [intOf]; omega
          | false =>
            rw [hf] at H2
            have hM5 : 5 ≤ M.length := by rw [(unhide HI2).2.1]; omega
            have HI3 := hide (show (kept ++ [d]) ++ (l.drop (j + 1)).filter (fun e => !f e) = l.filter (fun e => !f e) by
              have h := (unhide HI2).2.2.2
              rw [List.filter_cons, hf] at h
              simpa using h)
            have HR3 := hide (unhide HI2).2.2.1
            have HM3 := hide (show (M.drop 5 ++ entCells d).length = (j + 1 - (p + 1)) * 5 by rw [List.length_append, List.length_drop, (unhide HI2).2.1]; simp [entCells]; omega)
            have HK3 := hide (unhide HI2).1
            have HM5 := hide hM5
            clear HI2 hM5
            go_wp2_with fail
            refine (unhide H2 _).mono ?_
            rintro _ w3 ⟨rfl, hb3⟩
            have hs3 := hb3.size
            simp at hs3
            have HB3 := hide (show Below base w w3 from ((unhide HBB).alloc (by have := (unhide HBB).size; omega) _).trans (hb3.mono (by have := (unhide HBB).size; simp; omega)))
            have HR4 := hide (show DelRow g w3 kept M (d :: l.drop (j + 1)) T from Blk.below (Blk.alloc (unhide HR3) _) hb3 (by simp; omega))
            have hvar := Blk.below (Blk.new wr 25 #[.int .i64 d.key, .int .i64 d.value, .int .i64 d.time, .int .i64 d.who, .bool d.gone]) hb3 (by simp)
            have v0 : w3.cell? ⟨wr.heap.size, 0, none⟩ = some (.int .i64 d.key) := hvar.cell 0
            have v1 : w3.cell? ⟨wr.heap.size, 1, none⟩ = some (.int .i64 d.value) := hvar.cell 1
            have v2 : w3.cell? ⟨wr.heap.size, 2, none⟩ = some (.int .i64 d.time) := hvar.cell 2
            have v3 : w3.cell? ⟨wr.heap.size, 3, none⟩ = some (.int .i64 d.who) := hvar.cell 3
            have v4 : w3.cell? ⟨wr.heap.size, 4, none⟩ = some (.bool d.gone) := hvar.cell 4
            have hst : ∀ r, r < 5 → ∃ u, w3.cell? ⟨g, p * 5 + r, none⟩ = some u := fun r hr => by
              have h := Blk.cell (unhide HR4) (p * 5 + r)
              have hkl := entCells_flat kept
              rw [unhide HK3] at hkl
              have hM := unhide HM5
              rw [h]
              simp only [List.getElem?_toArray]
              exact ⟨_, List.getElem?_eq_getElem (by simp only [List.length_append, hkl]; omega)⟩
            obtain ⟨u0, s0⟩ := hst 0 (by omega)
            obtain ⟨u1, s1⟩ := hst 1 (by omega)
            obtain ⟨u2, s2⟩ := hst 2 (by omega)
            obtain ⟨u3, s3⟩ := hst 3 (by omega)
            obtain ⟨u4, s4⟩ := hst 4 (by omega)
            rw [Nat.add_zero] at s0
            have z0 : w3.frozen? ⟨g, p * 5, none⟩ = false := Blk.frozen (unhide HR4) _
            have z1 : w3.frozen? ⟨g, p * 5 + 1, none⟩ = false := Blk.frozen (unhide HR4) _
            have z2 : w3.frozen? ⟨g, p * 5 + 2, none⟩ = false := Blk.frozen (unhide HR4) _
            have z3 : w3.frozen? ⟨g, p * 5 + 3, none⟩ = false := Blk.frozen (unhide HR4) _
            have z4 : w3.frozen? ⟨g, p * 5 + 4, none⟩ = false := Blk.frozen (unhide HR4) _
            have HR5 := hide ((unhide HR4).put p (unhide HK3) (unhide HM5))
            have HB5 := hide (below_setCells (entCells d) (p * 5) w3 (unhide HB3) hbg)
            clear hb3 HR3 HBB hvar hst HR4
            have hpn : (p : Int) < (n : Int) := by omega
            go_wp2_with fail
            go_roundw
            case rel => exact ⟨p + 1, j + 1, kept ++ [d], M.drop 5 ++ entCells d, by omega, by omega, by go_num, by go_num, by simp; omega, unhide HB5, by rw [List.length_append, unhide HK3]; rfl, unhide HM3, unhide HR5, unhide HI3⟩
            case measure => simp [intOf]; omega
        · obtain rfl : j = n := by omega
          obtain ⟨i0, hi, hz0, hz1, hz2⟩ := ent_info
          have hI := unhide HI
          have hdl : l.drop j = [] := List.drop_of_length_le (by rw [unhide HL]; exact Nat.le_refl _)
          rw [hdl] at hI
          obtain ⟨hK, hM, hRow, hF⟩ := hI
          simp only [List.filter_nil, List.append_nil] at hF
          have hkl := entCells_flat kept
          rw [hK] at hkl
          have hlen : ((kept.flatMap entCells ++ M ++ (([] : List Ent).flatMap entCells ++ T))).length = c * 5 := by
            have := unhide HTL
            simp only [List.length_append, hkl, hM, List.flatMap_nil, List.length_nil]
            omega
          obtain ⟨zs, hzl, hclr⟩ := run_clear_rows (P := Try.prog) wr 22 25 i0 _ 5 Try.underlying22 hi hz0 rfl (by intro u hu; simp [Value.cells] at hu; rcases hu with rfl | rfl <;> rfl) g (p * 5) (j - p) (c - p) (by omega)
            (fun r hr => by
              rw [Blk.cell hRow, List.getElem?_toArray, List.getElem?_eq_getElem (by rw [hlen]; have := unhide HTL; omega)]
              rfl)
            (fun r hr => Blk.frozen hRow _)
          have hpn : (p : Int) < (j : Int) := by omega
          have hpc : (p : Int) ≤ (c : Int) := by omega
          have hjc : (j : Int) ≤ (c : Int) := by omega
          have HB5 := hide (below_setCells zs (p * 5) wr hb hbg)
          have hrow2 : Blk (wr.setCells g (p * 5) zs) g 25 (kept.flatMap entCells ++ zs ++ T).toArray := by
            have h := Blk.setCells_ zs (kept.flatMap entCells) M T wr (by
              have h0 := hRow
              unfold DelRow at h0
              simpa using h0) (by rw [hM, hzl])
            rwa [hkl] at h
          have HO := hide (show (wr.setCells g (p * 5) zs).ownsRow base 25 5 (.slice (some ⟨g, 0, none⟩) p c) p (kept.flatMap entCells) from
            ⟨hkl, .inr ⟨g, c, _, rfl, hbg, hrow2, by omega, hcm, by
              have := hlen
              simp only [List.length_append, hM, List.flatMap_nil, List.length_nil] at this
              simp only [List.size_toArray, List.length_append, hzl]
              omega, by
              show (kept.flatMap entCells ++ zs ++ T).take (p * 5) = _
              rw [List.append_assoc, List.take_append_of_le_length (by omega), List.take_of_length_le (by omega)]⟩⟩)
          have HK := hide hK
          have HFF := hide hF
          clear hRow hrow2 hlen hzl hM hkl hdl HI hb hK hF
          go_wp2_with fail
          go_ret
          refine ⟨_, rfl, ?_, unhide HB5⟩
          rw [← unhide HFF, unhide HK]
          exact unhide HO
end Go.Proofs.Ythmnfbnaeggknaa
