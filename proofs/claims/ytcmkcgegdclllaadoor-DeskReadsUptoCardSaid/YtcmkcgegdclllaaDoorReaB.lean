/- Words for the reference's StepRead. Conditions: none beyond what each theorem states. -/
import Derived.Test.YtcmkcgegdclllaaDoorReaA
import Derived.Test.YtcmkcgegdclllaaDoorDesG
namespace Go.Proofs.YtcmkcgegdclllaaDoor
open Go.RowKit
set_option linter.unusedVariables false

def SplAt (L : List UInt8) (i : Nat) (ws : List (List UInt8)) (word : List UInt8) : Prop :=
  (i ≤ L.length ∧ cutL L = ws ++ glueL word (cutL (L.drop i)) ∧ word.length ≤ i ∧ ws.length ≤ i) ∨ (i = L.length + 1 ∧ ws = cutL L ∧ word = [] ∧ ws.length ≤ i)
theorem SplAt.start (L : List UInt8) : SplAt L 0 [] [] := Or.inl ⟨by omega, by rw [List.drop_zero, glue_nil]; rfl, by simp, by simp⟩
theorem SplAt.blank {L : List UInt8} {i : Nat} {ws : List (List UInt8)} {word : List UInt8} (h : SplAt L i ws word) (hi : i < L.length) (hc : L[i] = 32) : SplAt L (i + 1) (ws ++ [word]) [] := by
  rcases h with ⟨h1, h2, h3, h4⟩ | ⟨h1, _⟩
  · refine Or.inl ⟨hi, ?_, by simp, by simp; omega⟩
    rw [h2, cut_at L i hi, if_pos hc, glue_nil]
    simp [glueL]
  · omega
theorem SplAt.more {L : List UInt8} {i : Nat} {ws : List (List UInt8)} {word : List UInt8} (h : SplAt L i ws word) (hi : i < L.length) (hc : ¬ L[i] = 32) : SplAt L (i + 1) ws (word ++ [L[i]]) := by
  rcases h with ⟨h1, h2, h3, h4⟩ | ⟨h1, _⟩
  · refine Or.inl ⟨hi, ?_, by simp; omega, by omega⟩
    rw [h2, cut_at L i hi, if_neg hc, glue_glue _ _ _ (cutL_ne _)]
  · omega
theorem SplAt.last {L : List UInt8} {ws : List (List UInt8)} {word : List UInt8} (h : SplAt L L.length ws word) : SplAt L (L.length + 1) (ws ++ [word]) [] := by
  rcases h with ⟨h1, h2, h3, h4⟩ | ⟨h1, _⟩
  · refine Or.inr ⟨rfl, ?_, rfl, by simp; omega⟩
    rw [h2, cut_end]
    simp [glueL]
  · omega
theorem SplAt.fin {L : List UInt8} {i : Nat} {ws : List (List UInt8)} {word : List UInt8} (h : SplAt L i ws word) (hi : ¬ i ≤ L.length) : ws = cutL L := by
  rcases h with ⟨h1, _⟩ | ⟨_, h2, _⟩
  · omega
  · exact h2
theorem SplAt.lens {L : List UInt8} {i : Nat} {ws : List (List UInt8)} {word : List UInt8} (h : SplAt L i ws word) : word.length ≤ i ∧ ws.length ≤ i ∧ i ≤ L.length + 1 := by
  rcases h with ⟨h1, _, h3, h4⟩ | ⟨h1, _, h3, h4⟩
  · exact ⟨h3, h4, by omega⟩
  · exact ⟨by rw [h3]; simp, h4, by omega⟩
theorem bstr_cut (L : List UInt8) (i : Nat) (h : i < L.length) (W : World) : (Instr.slice 9 (.string (bstr L)) (some (.int .i64 (i : Int))) (some (.int .i64 ((i : Int) + 1))) none).run Tryd.prog W = .ok (.string (bstr [L[i]'h])) W := by
  rw [run_slice_string W 9 (bstr L) .i64 .i64 (i : Int) ((i : Int) + 1) Tryd.underlying9 (by omega) (by omega) (by rw [bstr_size]; omega)]
  have e : (bstr L).extract ((i : Int)).toNat ((i : Int) + 1).toNat = bstr [L[i]'h] := by
    have h1 : ((i : Int)).toNat = i := by omega
    have h2 : ((i : Int) + 1).toNat = i + 1 := by omega
    rw [h1, h2]
    unfold bstr
    rw [ByteArray.extract_mk]
    have h3 : (L.drop i).take (i + 1 - i) = [L[i]] := by
      rw [List.drop_eq_getElem_cons h, Nat.add_sub_cancel_left]
      rfl
    rw [h3]
  rw [e]
def wordV (ws : List (List UInt8)) : List Value := ws.map fun x => .string (bstr x)
def zerC : Array Value := #[.int .i64 0, .int .i64 0, .int .i64 0, .int .i64 0, .int .i64 0, .int .i64 0, .int .i64 0, .int .i64 0]
/-- a step stored into block p -/
def wr8 (W : World) (p : Nat) (x0 x1 x2 x3 x4 x5 x6 x7 : Int) : World :=
  (((((((W.setCell ⟨p, 0, none⟩ (.int .i64 x0)).setCell ⟨p, 1, none⟩ (.int .i64 x1)).setCell ⟨p, 2, none⟩ (.int .i64 x2)).setCell ⟨p, 3, none⟩ (.int .i64 x3)).setCell ⟨p, 4, none⟩ (.int .i64 x4)).setCell ⟨p, 5, none⟩ (.int .i64 x5)).setCell ⟨p, 6, none⟩ (.int .i64 x6)).setCell ⟨p, 7, none⟩ (.int .i64 x7)
theorem wr8_blk {W : World} {p : Nat} {cs : Array Value} (h : Blk W p 29 cs) (hs : cs.size = 8) (x0 x1 x2 x3 x4 x5 x6 x7 : Int) : Blk (wr8 W p x0 x1 x2 x3 x4 x5 x6 x7) p 29 (stpC [x0, x1, x2, x3, x4, x5, x6, x7]) := by
  have h8 := (((((((h.set_ 0 (.int .i64 x0)).set_ 1 (.int .i64 x1)).set_ 2 (.int .i64 x2)).set_ 3 (.int .i64 x3)).set_ 4 (.int .i64 x4)).set_ 5 (.int .i64 x5)).set_ 6 (.int .i64 x6)).set_ 7 (.int .i64 x7)
  have e : ((((((((cs.setIfInBounds 0 (.int .i64 x0)).setIfInBounds 1 (.int .i64 x1)).setIfInBounds 2 (.int .i64 x2)).setIfInBounds 3 (.int .i64 x3)).setIfInBounds 4 (.int .i64 x4)).setIfInBounds 5 (.int .i64 x5)).setIfInBounds 6 (.int .i64 x6)).setIfInBounds 7 (.int .i64 x7)) = stpC [x0, x1, x2, x3, x4, x5, x6, x7] := by
    rw [← Array.toList_inj]
    simp only [Array.toList_setIfInBounds, stpC]
    have hl : cs.toList.length = 8 := by simpa using hs
    generalize cs.toList = l at hl
    match l, hl with
    | [a, b, c, d, e, f, g, h], _ => rfl
  rw [e] at h8
  exact h8
theorem wr8_only {W : World} {p : Nat} (x0 x1 x2 x3 x4 x5 x6 x7 : Int) : Only (fun k => k = p) W (wr8 W p x0 x1 x2 x3 x4 x5 x6 x7) :=
  only_put (only_put (only_put (only_put (only_put (only_put (only_put (only_put (Only.refl _ W) 0 _) 1 _) 2 _) 3 _) 4 _) 5 _) 6 _) 7 _
theorem wr8_below {W w : World} {p B : Nat} (h : Below B w W) (hp : B ≤ p) (x0 x1 x2 x3 x4 x5 x6 x7 : Int) : Below B w (wr8 W p x0 x1 x2 x3 x4 x5 x6 x7) :=
  (((((((h.setCell (p := ⟨p, 0, none⟩) hp _).setCell (p := ⟨p, 1, none⟩) hp _).setCell (p := ⟨p, 2, none⟩) hp _).setCell (p := ⟨p, 3, none⟩) hp _).setCell (p := ⟨p, 4, none⟩) hp _).setCell (p := ⟨p, 5, none⟩) hp _).setCell (p := ⟨p, 6, none⟩) hp _).setCell (p := ⟨p, 7, none⟩) hp _
theorem mem_putS : ∀ (sel : List Nat) (xs ns : List Int) (x : Int), x ∈ putS xs sel ns → x ∈ xs ∨ x ∈ ns
  | [], xs, ns, x, h => Or.inl (by cases ns <;> simpa [putS] using h)
  | j :: l, xs, [], x, h => Or.inl (by simpa [putS] using h)
  | j :: l, xs, n :: ns, x, h => by
    rw [putS] at h
    rcases mem_putS l _ ns x h with h | h
    · rcases List.mem_or_eq_of_mem_set h with h | h
      · exact Or.inl h
      · exact Or.inr (by simp [h])
    · exact Or.inr (by simp [h])
theorem len_putS : ∀ (sel : List Nat) (xs ns : List Int), (putS xs sel ns).length = xs.length
  | [], xs, ns => by cases ns <;> simp [putS]
  | j :: l, xs, [] => by simp [putS]
  | j :: l, xs, n :: ns => by rw [putS, len_putS l, List.length_set]
theorem ref_eight (m : Nat) (N : List Int) : ∃ x0 x1 x2 x3 x4 x5 x6 x7, refS m N = [x0, x1, x2, x3, x4, x5, x6, x7] := by
  have h : (refS m N).length = 8 := by unfold refS; rw [len_putS]; rfl
  generalize refS m N = l at h
  match l, h with
  | [a, b, c, d, e, f, g, h], _ => exact ⟨a, b, c, d, e, f, g, h, rfl⟩
theorem ref_i64 {L : List UInt8} {N : List Int} (h : NumsOK L N) (m : Nat) (hm : m < 11) : ∀ x ∈ refS m N, I64 x := by
  intro x hx
  rcases mem_putS _ _ _ x hx with h1 | h1
  · unfold zeroS at h1
    simp only [List.mem_cons, List.not_mem_nil, or_false] at h1
    unfold I64
    omega
  · simp only [List.mem_cons, List.not_mem_nil, or_false] at h1
    rcases h1 with rfl | rfl | rfl | rfl <;> exact nums_i64 h _ (by omega) (by omega)
theorem cut_piece : ∀ (L x : List UInt8), x ∈ cutL L → x.length ≤ L.length
  | [], x, h => by simp [cutL] at h; simp [h]
  | c :: r, x, h => by
    rw [cutL_cons] at h
    split at h
    · rcases List.mem_cons.1 h with rfl | h
      · simp
      · have := cut_piece r x h; simp; omega
    · have hr := cut_piece r
      generalize cutL r = g at h hr
      cases g with
      | nil => simp [glueL] at h; simp [h]
      | cons y t =>
        rcases List.mem_cons.1 h with rfl | h
        · have := hr y (by simp); simp; omega
        · have := hr x (by simp [h]); simp; omega
def ReadPost (L : List UInt8) (w : World) (e : Ending) (w' : World) : Prop :=
  ∃ xs c, e = .returned (.tuple #[stpV xs, .int .i64 c]) ∧ RefAt L xs c ∧ xs.length = 8 ∧ Below w.heap.size w w'
def numC (N : List Int) : Array Value := (N.map (Value.int .i64)).toArray
theorem numC_get {N : List Int} {j : Nat} (h : j < N.length) : (numC N)[j]? = some (.int .i64 (fld N j)) := by
  unfold numC fld
  simp [List.getElem?_eq_getElem h, List.getD_eq_getElem?_getD]
theorem numC_set (N : List Int) (j : Nat) (z : Int) : (numC N).setIfInBounds j (.int .i64 z) = numC (N.set j z) := by
  unfold numC
  rw [← Array.toList_inj]
  simp [List.map_set]
def StepCut (w : World) (p a7 q m : Nat) (N : List Int) (W : World) : Prop :=
  Blk W q 29 (stpC (refS m N)) ∧ Blk W a7 59 (numC N) ∧ Blk W p 29 zerC ∧ Below w.heap.size w W
theorem step_cut {w wy : World} {p a7 q m : Nat} {N : List Int} (kq : Blk wy q 29 (stpC (zeroS m))) (k7 : Blk wy a7 59 (numC N)) (kp : Blk wy p 29 zerC) (hb : Below w.heap.size w wy) (hq : w.heap.size ≤ q ∧ p < q ∧ a7 < q)
    (x0 x1 x2 x3 x4 x5 x6 x7 : Int) (hx : [x0, x1, x2, x3, x4, x5, x6, x7] = refS m N) : Hid (StepCut w p a7 q m N (wr8 wy q x0 x1 x2 x3 x4 x5 x6 x7)) := by
  refine hide ⟨?_, ?_, ?_, ?_⟩
  · rw [← hx]
    exact wr8_blk kq rfl x0 x1 x2 x3 x4 x5 x6 x7
  · exact k7.only (wr8_only x0 x1 x2 x3 x4 x5 x6 x7) (fun e => by have : a7 = q := e; omega)
  · exact kp.only (wr8_only x0 x1 x2 x3 x4 x5 x6 x7) (fun e => by have : p = q := e; omega)
  · exact wr8_below hb hq.1 x0 x1 x2 x3 x4 x5 x6 x7
theorem step_cut0 {w wy : World} {p a7 q m : Nat} {N : List Int} (kq : Blk wy q 29 (stpC (zeroS m))) (k7 : Blk wy a7 59 (numC N)) (kp : Blk wy p 29 zerC) (hb : Below w.heap.size w wy) (hx : zeroS m = refS m N) : Hid (StepCut w p a7 q m N wy) := by
  refine hide ⟨?_, k7, kp, hb⟩
  rw [← hx]
  exact kq
/-- the numbers so far -/
def NumsTo (L : List UInt8) (N : List Int) (j : Nat) : Prop := N.length = 5 ∧ 1 ≤ j ∧ (j = 1 ∨ j ≤ (cutL L).length) ∧ ∀ i, 1 ≤ i → i < 5 → (i < j → ∀ w, (cutL L)[i]? = some w → undP w = (fld N i, true)) ∧ (j ≤ i → fld N i = 0)
theorem NumsTo.start (L : List UInt8) : NumsTo L [0, 0, 0, 0, 0] 1 := ⟨rfl, by omega, Or.inl rfl, fun i h1 h5 => ⟨fun h => by omega, fun _ => by
  have : i = 1 ∨ i = 2 ∨ i = 3 ∨ i = 4 := by omega
  rcases this with rfl | rfl | rfl | rfl <;> rfl⟩⟩
theorem fld_set (N : List Int) (j i : Nat) (z : Int) (hj : j < N.length) : fld (N.set j z) i = if i = j then z else fld N i := by
  unfold fld
  rw [List.getD_eq_getElem?_getD, List.getD_eq_getElem?_getD, List.getElem?_set]
  by_cases h : j = i
  · subst h; simp [hj]
  · rw [if_neg h, if_neg (fun e => h e.symm)]
theorem NumsTo.next {L : List UInt8} {N : List Int} {j : Nat} {x : List UInt8} (h : NumsTo L N j) (hj5 : j < 5) (hx : (cutL L)[j]? = some x) (hu : (undP x).2 = true) : NumsTo L (N.set j (undP x).1) (j + 1) := by
  obtain ⟨h1, h2, _, h3⟩ := h
  have hjl : j < (cutL L).length := (List.getElem?_eq_some_iff.1 hx).1
  refine ⟨by rw [List.length_set, h1], by omega, Or.inr hjl, fun i hi1 hi5 => ⟨fun hi w hw => ?_, fun hi => ?_⟩⟩
  · rw [fld_set _ _ _ _ (by omega)]
    by_cases he : i = j
    · subst he
      rw [if_pos rfl]
      rw [hx] at hw
      obtain rfl := Option.some.inj hw
      rw [← hu]
    · rw [if_neg he]
      exact (h3 i hi1 hi5).1 (by omega) w hw
  · rw [fld_set _ _ _ _ (by omega), if_neg (by omega)]
    exact (h3 i hi1 hi5).2 (by omega)
theorem NumsTo.fin {L : List UInt8} {N : List Int} {j : Nat} (h : NumsTo L N j) (hj : ¬ (j < (cutL L).length ∧ j < 5)) : NumsOK L N := by
  obtain ⟨h1, h2, h4, h3⟩ := h
  have hl : 1 ≤ (cutL L).length := by rw [cut_len]; omega
  refine ⟨h1, fun i hi1 hi5 => ⟨fun w hw => ?_, fun hn => ?_⟩⟩
  · have := (List.getElem?_eq_some_iff.1 hw).1
    exact (h3 i hi1 hi5).1 (by omega) w hw
  · have := List.getElem?_eq_none_iff.1 hn
    exact (h3 i hi1 hi5).2 (by omega)
end Go.Proofs.YtcmkcgegdclllaaDoor
