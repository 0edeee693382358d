/- Contracts and plain facts, set together by program out of smaller texts. Conditions: none beyond what each theorem states. -/
import Derived.Test.YtbolcebmbpepdaaDoorProg
import Derived.BigQuiet
import Derived.StillTailTactics
import Derived.Test.YtbolcebmbpepdaaDoorM03
import Derived.Test.YtbolcebmbpepdaaDoorM01
namespace Go.Proofs.YtbolcebmbpepdaaDoor
set_option linter.unusedVariables false
section
open Go.RowKit
def idxZ (f : Int → Bool) : List Int → Nat → Int
  | [], _ => -1
  | z :: l, k => if f z then k else idxZ f l (k + 1)
theorem idxZ_any (f : Int → Bool) : ∀ (l : List Int) (k : Nat), decide (0 ≤ idxZ f l k) = l.any f
  | [], k => by simp [idxZ]
  | z :: l, k => by
    cases hf : f z with
    | true => simp [idxZ, hf]
    | false => simp only [idxZ, hf, List.any_cons, Bool.false_or]; exact idxZ_any f l (k + 1)
theorem intIndex_any (fn : FuncId) (cap : Array Value) (f : Int → Bool) (A : Option Addr) (n c : Nat) (zs : List Int) (B : Nat) (Inv : World → Prop) (w : World) (hl : zs.length = n) (hm : n ≤ maxLen)
    (hr : ∀ W, Inv W → Reads W B 1 A n (zs.map (.int .i64))) (hI : Inv w)
    (hrun : ∀ args W, (callFunc fn args).run Tryd.prog W = .ok (.enter fn args) W)
    (h : ∀ z W, z ∈ zs → Inv W → Calls Tryd.prog fn (#[.int .i64 z] ++ cap) W fun x w' => x = .returned (.bool (f z)) ∧ Inv w') :
    Calls Tryd.prog 29 #[.slice A n c, .func (.func fn) #[] cap] w fun e w' => e = .returned (.int .i64 (idxZ f zs 0)) ∧ Inv w' := by
  have HR := hide hr
  have HL := hide hl
  have H := hide h
  have HI := hide hI
  unfold maxLen at hm
  clear hr hl h hI
  go_enter Tryd.func29, Tryd.ntmps29
  go_wp2_with fail
  go_loopw [8] (fun i wr => ∃ (k : Nat), k ≤ n ∧ i = .int .i64 k ∧ Hid (Inv wr) ∧ Hid (idxZ f (zs.drop k) k = idxZ f zs 0)) (fun i _ => n - (intOf i).toNat)
  case atStart => exact ⟨0, Nat.zero_le _, rfl, HI, rfl⟩
  case round =>
    obtain ⟨k, hk, rfl, HW, HX⟩ := hrel
    by_cases hlt : k < n
    · obtain ⟨b, o, z, rfl, hbl, hz, hc⟩ := at_num (unhide HR _ (unhide HW)) hlt
      have HX2 := hide (by have h := unhide HX; rw [drop_cons zs k z hz, idxZ] at h; exact h)
      have H2 := hide (unhide H z wr (List.mem_of_getElem? hz) (unhide HW))
      clear HX hz
      cases hf : f z with
      | true =>
        have HX3 := hide (by have h := unhide HX2; rw [if_pos hf] at h; exact h)
        rw [hf] at H2
        clear HX2
        go_wp2_with fail
        refine (unhide H2).mono ?_
        rintro _ w2 ⟨rfl, hb2⟩
        have HB2 := hide hb2
        clear hb2
        go_wp2_with fail
        go_ret
        exact ⟨ret_int (unhide HX3), unhide HB2⟩
      | false =>
        have HX3 := hide (by have h := unhide HX2; rw [if_neg (by rw [hf]; simp)] at h; exact h)
        rw [hf] at H2
        clear HX2
        go_wp2_with fail
        refine (unhide H2).mono ?_
        rintro _ w2 ⟨rfl, hb2⟩
        have HB2 := hide hb2
        clear hb2
        go_wp2_with fail
        go_roundw
        case rel => exact ⟨k + 1, by omega, by go_num, HB2, unhide HX3⟩
        case measure => simp [intOf]; omega
    · obtain rfl : k = n := by omega
      have HF := hide (show idxZ f zs 0 = -1 by
        have h := unhide HX
        rw [List.drop_of_length_le (by rw [unhide HL]; exact Nat.le_refl _)] at h
        exact h.symm)
      clear HX
      go_wp2_with fail
      go_ret
      exact ⟨ret_int (unhide HF).symm, unhide HW⟩
theorem intContains_any (fn : FuncId) (cap : Array Value) (f : Int → Bool) (A : Option Addr) (n c : Nat) (zs : List Int) (B : Nat) (Inv : World → Prop) (w : World) (hl : zs.length = n) (hm : n ≤ maxLen)
    (hr : ∀ W, Inv W → Reads W B 1 A n (zs.map (.int .i64))) (hI : Inv w)
    (hrun : ∀ args W, (callFunc fn args).run Tryd.prog W = .ok (.enter fn args) W)
    (h : ∀ z W, z ∈ zs → Inv W → Calls Tryd.prog fn (#[.int .i64 z] ++ cap) W fun x w' => x = .returned (.bool (f z)) ∧ Inv w') :
    Calls Tryd.prog 17 #[.slice A n c, .func (.func fn) #[] cap] w fun e w' => e = .returned (.bool (zs.any f)) ∧ Inv w' := by
  have H := hide (intIndex_any fn cap f A n c zs B Inv w hl hm hr hI hrun h)
  have HF := hide (idxZ_any f zs 0)
  obtain ⟨x, hx⟩ : ∃ x, idxZ f zs 0 = x := ⟨_, rfl⟩
  rw [hx] at H HF
  clear hl hr hI hrun h hm hx
  go_enter Tryd.func17, Tryd.ntmps17
  go_wp2_with fail
  refine (unhide H).mono ?_
  rintro _ w2 ⟨rfl, hb2⟩
  have HB2 := hide hb2
  clear hb2
  go_wp2_with fail
  go_ret
  exact ⟨ret_bool (by rw [← unhide HF]), unhide HB2⟩
end
section
open Go.RowKit
def szGo : List Int → Int → Int × Int
  | [], b => ((b + 7) / 8, 0)
  | z :: l, b => if z < 1 ∨ 60 < z then (0, 2) else szGo l (b + z)
def sizeP (zs : List Int) : Int × Int := if 40 < zs.length then (0, 1) else szGo zs 0
theorem wireSize_any (A : Option Addr) (n c : Nat) (zs : List Int) (B : Nat) (w : World) (hl : zs.length = n) (hm : n ≤ 9223372036854775807) (hr : Reads w B 1 A n (zs.map (.int .i64))) :
    Calls Tryd.prog 72 #[.slice A n c] w fun e w' => e = .returned (.tuple #[.int .i64 (sizeP zs).1, .int .i64 (sizeP zs).2]) ∧ w = w' := by
  have HR := hide hr
  clear hr
  have HL := hide hl
  clear hl
  by_cases h40 : 40 < n
  · have HF := hide (show sizeP zs = (0, 1) by unfold sizeP; rw [unhide HL, if_pos h40])
    go_enter Tryd.func72, Tryd.ntmps72
    go_wp2_with fail
    go_ret2
    exact ⟨by rw [unhide HF]; rfl, rfl⟩
  · have HF := hide (show sizeP zs = szGo zs 0 by unfold sizeP; rw [unhide HL, if_neg h40])
    have h40' : n ≤ 40 := by omega
    clear h40
    go_enter Tryd.func72, Tryd.ntmps72
    go_wp2_with fail
    go_loop [4, 12] (fun b i => ∃ (k : Nat) (b0 : Nat), k ≤ n ∧ i = .int .i64 k ∧ b = .int .i64 b0 ∧ b0 ≤ 60 * k ∧ Hid (szGo (zs.drop k) b0 = szGo zs 0)) (fun _ i => n - (intOf i).toNat)
    case atStart => exact ⟨0, 0, Nat.zero_le _, rfl, rfl, by omega, rfl⟩
    case round =>
      obtain ⟨k, b0, hk, rfl, rfl, hb, HI⟩ := hrel
      by_cases hlt : k < n
      · obtain ⟨ad, u, rfl, _, hz, hc⟩ := at_kind (unhide HR) hlt
        have HI2 := hide (by have h := unhide HI; rw [drop_cons zs k u hz, szGo] at h; exact h)
        clear HI hz
        by_cases h1 : u < 1 ∨ 60 < u
        · have HG := hide (by have h := unhide HI2; rw [if_pos h1] at h; exact h)
          clear HI2
          rcases h1 with h1 | h1
          all_goals
            go_wp2_with fail
            go_ret2
            exact ⟨by rw [unhide HF, ← unhide HG]; rfl, rfl⟩
        · have HG := hide (by have h := unhide HI2; rw [if_neg h1] at h; exact h)
          clear HI2
          obtain ⟨u, rfl⟩ := Int.eq_ofNat_of_zero_le (show 0 ≤ u by omega)
          have h2 : 1 ≤ u := by omega
          have h3 : u ≤ 60 := by omega
          clear h1
          go_wp2_with fail
          go_round
          case rel => exact ⟨k + 1, b0 + u, by omega, by go_num, by go_num, by omega, unhide HG⟩
          case measure => simp [intOf]; omega
      · obtain rfl : k = n := by omega
        have HG := hide (by have h := unhide HI; rw [List.drop_of_length_le (by rw [unhide HL]; exact Nat.le_refl _), szGo] at h; exact h)
        clear HI
        go_wp2_with fail
        go_ret2
        exact ⟨by rw [unhide HF, ← unhide HG]; rfl, rfl⟩
end
section
open Go.RowKit
theorem pow_le_128 (r : Nat) (hr : r ≤ 7) : 2 ^ r ≤ 128 := Nat.le_trans (Nat.pow_le_pow_right (by omega) hr) (by omega)
theorem put_val (old bit r : Nat) (hr : r < 8) (hbit : bit ≤ 1) (hold : old ≤ 255) (hlow : old % 2 ^ (8 - r) = 0) :
    bits .or .u8 (old : Int) (wrap64 ((bit : Int) * 2 ^ (7 - r)) % 256) = ((old + bit * 2 ^ (7 - r) : Nat) : Int) ∧ old + bit * 2 ^ (7 - r) ≤ 255 := by
  have hp := pow_le_128 (7 - r) (by omega)
  have hy : bit * 2 ^ (7 - r) ≤ 128 := by
    rcases (show bit = 0 ∨ bit = 1 by omega) with rfl | rfl
    · simp
    · simpa using hp
  have e1 : ((bit : Int) * 2 ^ (7 - r)) = ((bit * 2 ^ (7 - r) : Nat) : Int) := by simp
  have e2 : wrap64 ((bit * 2 ^ (7 - r) : Nat) : Int) % 256 = ((bit * 2 ^ (7 - r) : Nat) : Int) := by unfold wrap64; omega
  have hlt : bit * 2 ^ (7 - r) < 2 ^ (8 - r) := by
    have e : 2 ^ (8 - r) = 2 * 2 ^ (7 - r) := by rw [show 8 - r = (7 - r) + 1 from by omega, Nat.pow_succ]; omega
    rw [e]
    have hpos : 0 < 2 ^ (7 - r) := Nat.pow_pos (by omega)
    rcases (show bit = 0 ∨ bit = 1 by omega) with rfl | rfl
    · simpa using hpos
    · omega
  have hj := nat_join (8 - r) old (bit * 2 ^ (7 - r)) hlow hlt
  have hor := Nat.or_lt_two_pow (n := 8) (show old < 2 ^ 8 by omega) (show bit * 2 ^ (7 - r) < 2 ^ 8 by omega)
  rw [hj] at hor
  rw [e1, e2, u8_or_nat old _ (by omega) (by omega), hj]
  exact ⟨rfl, by omega⟩
theorem stripPut_any (g h : Nat) (m c at0 bit : Nat) (old : Nat) (w : World) (hw : at0 / 8 < m) (hc : m ≤ c) (hat : at0 ≤ 1000000) (hbit : bit ≤ 1) (hold : old ≤ 255) (hlow : old % 2 ^ (8 - at0 % 8) = 0)
    (c0 : w.cell? ⟨g, 0, none⟩ = some (.slice (some ⟨h, 0, none⟩) m c)) (c1 : w.cell? ⟨g, 1, none⟩ = some (.int .i64 at0)) (c2 : w.cell? ⟨h, at0 / 8, none⟩ = some (.int .u8 old))
    (f1 : w.frozen? ⟨g, 1, none⟩ = false) (f2 : w.frozen? ⟨h, at0 / 8, none⟩ = false) (hgh : h ≠ g) :
    Calls Tryd.prog 73 #[.pointer (some ⟨g, 0, none⟩), .int .i64 bit] w fun e w' => e = .returned (.tuple #[]) ∧
      ((w.setCell ⟨h, at0 / 8, none⟩ (.int .u8 ((old + bit * 2 ^ (7 - at0 % 8) : Nat) : Int))).setCell ⟨g, 1, none⟩ (.int .i64 (at0 + 1))).drew = w' := by
  have hv := (put_val old bit (at0 % 8) (Nat.mod_lt _ (by omega)) hbit hold hlow).1
  go_enter Tryd.func73, Tryd.ntmps73
  go_wp2_with fail
  go_region
  go_wp2
  go_end0
  exact ⟨rfl, rfl⟩
/-- the value of the bits from 'from_' on, so many -/
def bitsVal (bs : List Nat) : Nat → Nat → Nat
  | _, 0 => 0
  | i, k + 1 => 2 * bitsVal bs i k + bs.getD (i + k) 0
def byteOf (bs : List Nat) (i : Nat) : Nat := bitsVal bs (8 * i) 8
def bytesOf (bs : List Nat) (n : Nat) : List Int := (List.range n).map fun i => (byteOf bs i : Int)
def fieldBits (f : Int × Int) : List Nat := (List.range f.1.toNat).map fun k => f.2.toNat / 2 ^ (f.1.toNat - 1 - k) % 2
def allBits (fs : List (Int × Int)) : List Nat := fs.flatMap fieldBits
def fitsF (f : Int × Int) : Bool := decide (0 ≤ f.2 ∧ f.2 < 2 ^ f.1.toNat)
def packP (fs : List (Int × Int)) : List Int × Int :=
  if (sizeP (fs.map (·.1))).2 ≠ 0 then ([], (sizeP (fs.map (·.1))).2) else if fs.all fitsF then (bytesOf (allBits fs) (sizeP (fs.map (·.1))).1.toNat, 0) else ([], 12)
theorem bitsVal_lt (bs : List Nat) (h : ∀ b ∈ bs, b ≤ 1) (i k : Nat) : bitsVal bs i k < 2 ^ k := by
  induction k with
  | zero => simp [bitsVal]
  | succ k ih =>
    have : bs.getD (i + k) 0 ≤ 1 := by
      rw [List.getD_eq_getElem?_getD]
      cases hg : bs[i + k]? with
      | none => simp
      | some b => exact h b (List.mem_of_getElem? hg)
    rw [bitsVal, Nat.pow_succ]
    omega
theorem bitsVal_snoc_before (bs : List Nat) (b i k : Nat) (h : i + k ≤ bs.length) : bitsVal (bs ++ [b]) i k = bitsVal bs i k := by
  induction k with
  | zero => rfl
  | succ k ih =>
    rw [bitsVal, bitsVal, ih (by omega)]
    congr 1
    rw [List.getD_eq_getElem?_getD, List.getD_eq_getElem?_getD, List.getElem?_append_left (by omega)]
theorem bitsVal_snoc_after (bs : List Nat) (b i k : Nat) (h : bs.length < i) : bitsVal (bs ++ [b]) i k = bitsVal bs i k := by
  induction k with
  | zero => rfl
  | succ k ih =>
    rw [bitsVal, bitsVal, ih]
    congr 1
    rw [List.getD_eq_getElem?_getD, List.getD_eq_getElem?_getD, List.getElem?_eq_none (by simp; omega), List.getElem?_eq_none (by omega)]
theorem bitsVal_snoc_in (bs : List Nat) (b i k : Nat) (h : i ≤ bs.length) (h2 : bs.length < i + k) : bitsVal (bs ++ [b]) i k = bitsVal bs i k + b * 2 ^ (i + k - 1 - bs.length) := by
  induction k with
  | zero => omega
  | succ k ih =>
    rw [bitsVal, bitsVal]
    by_cases he : bs.length = i + k
    · have g1 : (bs ++ [b]).getD (i + k) 0 = b := by rw [← he]; simp
      have g2 : bs.getD (i + k) 0 = 0 := by rw [List.getD_eq_getElem?_getD, List.getElem?_eq_none (by omega)]; rfl
      rw [bitsVal_snoc_before bs b i k (by omega), g1, g2, show i + (k + 1) - 1 - bs.length = 0 by omega]
      simp
    · rw [ih (by omega), List.getD_eq_getElem?_getD, List.getD_eq_getElem?_getD, List.getElem?_eq_none (by simp; omega), List.getElem?_eq_none (by omega)]
      rw [show i + (k + 1) - 1 - bs.length = (i + k - 1 - bs.length) + 1 by omega, Nat.pow_succ, Nat.mul_add]
      simp [Nat.mul_comm, Nat.mul_left_comm]
theorem bitsVal_low (bs : List Nat) (i k : Nat) (h : i ≤ bs.length) (h2 : bs.length ≤ i + k) : bitsVal bs i k % 2 ^ (i + k - bs.length) = 0 := by
  induction k with
  | zero => simp [bitsVal]
  | succ k ih =>
    by_cases he : bs.length = i + (k + 1)
    · rw [he]; simp [Nat.mod_one]
    · rw [bitsVal, List.getD_eq_getElem?_getD, List.getElem?_eq_none (by omega), show i + (k + 1) - bs.length = (i + k - bs.length) + 1 by omega, Nat.pow_succ]
      have := ih (by omega)
      simp only [Option.getD_none, Nat.add_zero]
      rw [Nat.mul_comm 2, Nat.mul_mod_mul_right, this, Nat.zero_mul]
theorem bytesOf_snoc (bs : List Nat) (b n : Nat) (hn : bs.length / 8 < n) :
    bytesOf (bs ++ [b]) n = (bytesOf bs n).set (bs.length / 8) ((byteOf bs (bs.length / 8) + b * 2 ^ (7 - bs.length % 8) : Nat) : Int) := by
  refine List.ext_getElem (by simp [bytesOf]) fun i h1 h2 => ?_
  simp only [bytesOf, List.getElem_map, List.getElem_range, List.getElem_set]
  by_cases he : bs.length / 8 = i
  · rw [if_pos he, ← he]
    unfold byteOf
    rw [bitsVal_snoc_in bs b _ 8 (by omega) (by omega)]
    rw [show 8 * (bs.length / 8) + 8 - 1 - bs.length = 7 - bs.length % 8 by omega]
  · rw [if_neg he]
    unfold byteOf
    rcases Nat.lt_or_gt_of_ne he with h | h
    · rw [bitsVal_snoc_after bs b _ 8 (by omega)]
    · rw [bitsVal_snoc_before bs b _ 8 (by omega)]
theorem byteOf_low (bs : List Nat) : byteOf bs (bs.length / 8) % 2 ^ (8 - bs.length % 8) = 0 := by
  have := bitsVal_low bs (8 * (bs.length / 8)) 8 (by omega) (by omega)
  rw [show 8 * (bs.length / 8) + 8 - bs.length = 8 - bs.length % 8 by omega] at this
  exact this
theorem byteOf_le (bs : List Nat) (h : ∀ b ∈ bs, b ≤ 1) (i : Nat) : byteOf bs i ≤ 255 := by
  have := bitsVal_lt bs h (8 * i) 8
  unfold byteOf
  omega
theorem bytesOf_nil (n : Nat) : bytesOf [] n = List.replicate n 0 := by
  refine List.ext_getElem (by simp [bytesOf]) fun i h1 h2 => ?_
  simp [bytesOf, byteOf, bitsVal]
theorem fieldBits_le (f : Int × Int) : ∀ b ∈ fieldBits f, b ≤ 1 := by
  intro b hb
  simp only [fieldBits, List.mem_map] at hb
  obtain ⟨k, _, rfl⟩ := hb
  omega
theorem allBits_le (fs : List (Int × Int)) : ∀ b ∈ allBits fs, b ≤ 1 := by
  intro b hb
  simp only [allBits, List.mem_flatMap] at hb
  obtain ⟨f, _, hf⟩ := hb
  exact fieldBits_le f b hf
theorem fieldBits_len (f : Int × Int) : (fieldBits f).length = f.1.toNat := by simp [fieldBits]
end
section
open Go.RowKit
def fldCells (f : Int × Int) : List Value := [.int .i64 f.1, .int .i64 f.2]
theorem fldCells_len (f : Int × Int) : (fldCells f).length = 2 := rfl
def wcells (fs : List (Int × Int)) (k : Nat) : List Value := ((fs.take k).map (·.1)).map (Value.int .i64)
theorem wcells_succ (fs : List (Int × Int)) (k : Nat) (f : Int × Int) (h : fs[k]? = some f) : wcells fs (k + 1) = wcells fs k ++ [.int .i64 f.1] := by
  simp [wcells, take_snoc fs k f h]
theorem wcells_all (fs : List (Int × Int)) : wcells fs fs.length = (fs.map (·.1)).map (Value.int .i64) := by simp [wcells]
theorem info_int : (Tryd.prog.info? 3).map (fun i => (i.zero, i.size, i.bytes)) = some (some (.int .i64 0), 1, 8) := by kernel_rfl
theorem info_u8 : (Tryd.prog.info? 5).map (fun i => (i.zero, i.size, i.bytes)) = some (some (.int .u8 0), 1, 1) := by kernel_rfl
theorem szGo_ok (zs : List Int) (b N : Nat) (h : szGo zs b = ((N : Int), 0)) : (∀ z ∈ zs, 1 ≤ z ∧ z ≤ 60) ∧ N = (b + (zs.map Int.toNat).sum + 7) / 8 := by
  induction zs generalizing b with
  | nil => simp only [szGo, Prod.mk.injEq] at h; exact ⟨by simp, by simp; omega⟩
  | cons z l ih =>
    rw [szGo] at h
    by_cases h1 : z < 1 ∨ 60 < z
    · rw [if_pos h1] at h; simp at h
    · rw [if_neg h1] at h
      obtain ⟨z, rfl⟩ := Int.eq_ofNat_of_zero_le (show 0 ≤ z by omega)
      have := ih (b + z) (by rw [← h]; simp)
      refine ⟨fun y hy => ?_, by rw [this.2]; simp; omega⟩
      rcases List.mem_cons.1 hy with rfl | hy
      · omega
      · exact this.1 y hy
theorem szGo_cases (zs : List Int) (b : Nat) : szGo zs b = (0, 2) ∨ ∃ N : Nat, szGo zs b = ((N : Int), 0) := by
  induction zs generalizing b with
  | nil => exact .inr ⟨(b + 7) / 8, by simp [szGo]⟩
  | cons z l ih =>
    rw [szGo]
    by_cases h1 : z < 1 ∨ 60 < z
    · exact .inl (by rw [if_pos h1])
    · rw [if_neg h1]
      obtain ⟨z, rfl⟩ := Int.eq_ofNat_of_zero_le (show 0 ≤ z by omega)
      exact ih (b + z)
theorem sizeP_cases (zs : List Int) : (sizeP zs = (0, 1)) ∨ (sizeP zs = (0, 2)) ∨ ∃ N : Nat, sizeP zs = ((N : Int), 0) ∧ zs.length ≤ 40 ∧ (∀ z ∈ zs, 1 ≤ z ∧ z ≤ 60) ∧ N = ((zs.map Int.toNat).sum + 7) / 8 := by
  unfold sizeP
  by_cases h : 40 < zs.length
  · exact .inl (by rw [if_pos h])
  · rw [if_neg h]
    rcases szGo_cases zs 0 with h1 | ⟨N, h1⟩
    · exact .inr (.inl h1)
    · have := szGo_ok zs 0 N h1
      exact .inr (.inr ⟨N, h1, by omega, this.1, by simpa using this.2⟩)
theorem allBits_len (fs : List (Int × Int)) : (allBits fs).length = ((fs.map (·.1)).map Int.toNat).sum := by
  induction fs with
  | nil => rfl
  | cons f l ih =>
    have : allBits (f :: l) = fieldBits f ++ allBits l := by simp [allBits]
    rw [this, List.length_append, ih, fieldBits_len]
    simp
theorem allBits_snoc (fs : List (Int × Int)) (k : Nat) (f : Int × Int) (h : fs[k]? = some f) : allBits (fs.take (k + 1)) = allBits (fs.take k) ++ fieldBits f := by
  rw [take_snoc fs k f h]; simp [allBits]
theorem allBits_take_le (fs : List (Int × Int)) (k : Nat) : (allBits (fs.take k)).length ≤ (allBits fs).length := by
  have e : allBits fs = allBits (fs.take k) ++ allBits (fs.drop k) := by
    unfold allBits
    rw [← List.flatMap_append, List.take_append_drop]
  rw [e, List.length_append]
  omega
theorem sum_le (zs : List Int) (h : ∀ z ∈ zs, 1 ≤ z ∧ z ≤ 60) : (zs.map Int.toNat).sum ≤ 60 * zs.length := by
  induction zs with
  | nil => simp
  | cons z l ih =>
    have h1 := h z (by simp)
    have h2 := ih (fun y hy => h y (by simp [hy]))
    simp only [List.map_cons, List.sum_cons, List.length_cons]
    omega
theorem fieldBits_take (w : Nat) (v : Nat) (t : Nat) (ht : t < w) : (fieldBits ((w : Int), (v : Int))).take (t + 1) = (fieldBits ((w : Int), (v : Int))).take t ++ [v / 2 ^ (w - 1 - t) % 2] := by
  refine take_snoc _ t _ ?_
  simp [fieldBits, ht]
/-- what the second loop keeps: the strip's block, the row of bytes -/
def PackAt (W w : World) (g h N : Nat) (bs : List Nat) : Prop :=
  Below W.heap.size W w ∧ W.heap.size ≤ h ∧ g = h + 1 ∧ Blk w g 155 #[.slice (some ⟨h, 0, none⟩) N N, .int .i64 bs.length] ∧ Blk w h 5 ((bytesOf bs N).map (Value.int .u8)).toArray
theorem PackAt.put {W w : World} {g h N : Nat} {bs : List Nat} (H : PackAt W w g h N bs) (b : Nat) (hn : bs.length / 8 < N) :
    PackAt W (((w.setCell ⟨h, bs.length / 8, none⟩ (.int .u8 ((byteOf bs (bs.length / 8) + b * 2 ^ (7 - bs.length % 8) : Nat) : Int))).setCell ⟨g, 1, none⟩ (.int .i64 (bs.length + 1))).drew) g h N (bs ++ [b]) := by
  obtain ⟨hb, hh, rfl, h1, h2⟩ := H
  have h1' := ((h1.far (p := ⟨h, bs.length / 8, none⟩) (by simp) (.int .u8 ((byteOf bs (bs.length / 8) + b * 2 ^ (7 - bs.length % 8) : Nat) : Int))).set_ 1 (.int .i64 (bs.length + 1))).drew
  have h2' := ((h2.set_ (bs.length / 8) (.int .u8 ((byteOf bs (bs.length / 8) + b * 2 ^ (7 - bs.length % 8) : Nat) : Int))).far (p := ⟨h + 1, 1, none⟩) (by simp) (.int .i64 (bs.length + 1))).drew
  refine ⟨((hb.setCell (by simpa using hh) _).setCell (by simp; omega) _).drew, hh, rfl, ?_, ?_⟩
  · simpa using h1'
  · rw [bytesOf_snoc bs b N hn]
    have e : (((bytesOf bs N).set (bs.length / 8) ((byteOf bs (bs.length / 8) + b * 2 ^ (7 - bs.length % 8) : Nat) : Int)).map (Value.int .u8)).toArray =
        (((bytesOf bs N).map (Value.int .u8)).toArray).setIfInBounds (bs.length / 8) (.int .u8 ((byteOf bs (bs.length / 8) + b * 2 ^ (7 - bs.length % 8) : Nat) : Int)) := by
      simp [List.map_set]
    rw [e]
    exact h2'
theorem PackAt.alloc {W w : World} {g h N : Nat} {bs : List Nat} (H : PackAt W w g h N bs) (o : Obj) : PackAt W (w.alloc o) g h N bs :=
  ⟨H.1.alloc H.1.size o, H.2.1, H.2.2.1, H.2.2.2.1.alloc o, H.2.2.2.2.alloc o⟩
theorem shr_and1 (v j : Nat) (hv : v ≤ 9223372036854775807) : bits .and .i64 ((v : Int) / 2 ^ j) 1 = ((v / 2 ^ j % 2 : Nat) : Int) := by
  have e : ((v:Int) / 2 ^ j) = ((v / 2 ^ j : Nat) : Int) := by simp
  have hd : v / 2 ^ j ≤ v := Nat.div_le_self _ _
  rw [e, show (1:Int) = ((1:Nat):Int) from rfl, i64_and_nat _ _ (by omega) (by omega), Nat.and_one_is_mod]
theorem two_pow_60 {wd : Nat} (h : wd ≤ 60) : 2 ^ wd ≤ 1152921504606846976 := Nat.le_trans (Nat.pow_le_pow_right (by omega) h) (by omega)
theorem PackAt.reads {W w : World} {g h N : Nat} {bs : List Nat} (H : PackAt W w g h N bs) (hn : bs.length / 8 < N) :
    w.cell? ⟨g, 0, none⟩ = some (.slice (some ⟨h, 0, none⟩) N N) ∧ w.cell? ⟨g, 1, none⟩ = some (.int .i64 bs.length) ∧ w.cell? ⟨h, bs.length / 8, none⟩ = some (.int .u8 (byteOf bs (bs.length / 8))) ∧
      w.frozen? ⟨g, 1, none⟩ = false ∧ w.frozen? ⟨h, bs.length / 8, none⟩ = false ∧ h ≠ g := by
  obtain ⟨hb, hh, rfl, h1, h2⟩ := H
  refine ⟨by rw [h1.cell]; rfl, by rw [h1.cell]; rfl, ?_, h1.frozen 1, h2.frozen _, by omega⟩
  rw [h2.cell]
  simp [bytesOf, hn]
/-- all blocks but two are aS they were -/
def But2 (w w' : World) (g h : Nat) : Prop := w'.heap.size = w.heap.size ∧ ∀ b, b ≠ g → b ≠ h → w'.heap[b]? = w.heap[b]?
theorem But2.blk {w w' : World} {g h b : Nat} {t : TypeId} {cs : Array Value} (H : But2 w w' g h) (hb : Blk w b t cs) (hg : b ≠ g) (hh : b ≠ h) : Blk w' b t cs := (H.2 b hg hh).trans hb
theorem stripPut_at (W w : World) (g h N bit : Nat) (bs : List Nat) (H : PackAt W w g h N bs) (hn : bs.length / 8 < N) (hat : bs.length ≤ 1000000) (hbit : bit ≤ 1) (hle : ∀ b ∈ bs, b ≤ 1) :
    Calls Tryd.prog 73 #[.pointer (some ⟨g, 0, none⟩), .int .i64 bit] w fun e w' => e = .returned (.tuple #[]) ∧ PackAt W w' g h N (bs ++ [bit]) ∧ But2 w w' g h := by
  obtain ⟨d0, d1, d2, e1, e2, e3⟩ := H.reads hn
  refine (stripPut_any g h N N bs.length bit (byteOf bs (bs.length / 8)) w hn (Nat.le_refl _) hat hbit (byteOf_le _ hle _) (byteOf_low _) d0 d1 d2 e1 e2 e3).mono ?_
  rintro e w' ⟨rfl, rfl⟩
  refine ⟨rfl, H.put bit hn, by simp [World.setCell, World.drew], fun b hg hh => ?_⟩
  exact (Below.heap_setCell _ _ _ _ (by simpa using hg)).trans (Below.heap_setCell _ _ _ _ (by simpa using hh))
end
section
open Go.RowKit
def Packed (W : World) (v : Value) (w : World) (bs : List Int) : Prop := w.ownsRow W.heap.size 5 1 v bs.length (bs.map (.int .u8)) ∧ Below W.heap.size W w
def PackPost (fs : List (Int × Int)) (W : World) (e : Ending) (w : World) : Prop := ∃ v, e = .returned (.tuple #[v, .int .i64 (packP fs).2]) ∧ Packed W v w (packP fs).1
set_option maxHeartbeats 800000 in
set_option maxRecDepth 100000 in
theorem wirePack_any (A : Option Addr) (n c : Nat) (fs : List (Int × Int)) (w : World) (hl : fs.length = n) (hm : n * 16 ≤ 140737488351232) (hr : Reads w w.heap.size 2 A n (fs.flatMap fldCells)) :
    Calls Tryd.prog 49 #[.slice A n c] w (PackPost fs w) := by
  obtain ⟨i0, hi, hz0, hz1, hz2⟩ := info_parts info_int
  have HR := hide hr
  clear hr
  have HL := hide hl
  clear hl
  go_enter Tryd.func49, Tryd.ntmps49
  go_wp2_with fail
  go_loopw [4, 15] (fun v i wr => ∃ (k : Nat), k ≤ n ∧ i = .int .i64 k ∧ wr.ownsRow w.heap.size 3 1 v k (wcells fs k) ∧ Below w.heap.size w wr) (fun _ i _ => n - (intOf i).toNat)
  case atStart => exact ⟨0, Nat.zero_le _, rfl, World.ownsRow_nil _ _ _ _, Below.refl _ _⟩
  case round =>
    obtain ⟨k, hk, rfl, hown, hb⟩ := hrel
    by_cases hlt : k < n
    · obtain ⟨b, o, f, rfl, hab, hf, hc⟩ := at_row fldCells_len (by omega) ((unhide HR).below hb) hlt (unhide HL)
      have c0 : wr.cell? ⟨b, o + k * 2, none⟩ = some (.int .i64 f.1) := hc 0 _ rfl
      have c1 : wr.cell? ⟨b, o + k * 2 + 1, none⟩ = some (.int .i64 f.2) := hc 1 _ rfl
      have HF := hide hf
      clear hc hf
      have hsz := hb.size
      go_wp2_with (first
        | (at_builtin; (refine wpList_append_new _ rfl (.tmp 19) (.tmp 22) _ rfl w.heap.size 3 i0 _ 1 8 Tryd.underlying22 hi hz0 hz1 hz2 rfl (by omega) (by omega) _ _ _ (hown.alloc _) rfl _ 1 _ rfl (by simp) rfl (by simp [Value.oneCell']) (by omega) (by omega) ?_); intro g cap w1 hg hown1 hbel1 _ _))
      go_roundw
      case rel => exact ⟨k + 1, by omega, by go_num, by rw [wcells_succ fs k f (unhide HF)]; exact hown1, hbel1 _ _ (Nat.le_refl _) (hb.alloc hsz _)⟩
      case measure => simp [intOf]; omega
    · obtain rfl : k = n := by omega
      obtain ⟨Aw, cw, rfl, hcw⟩ := own_slice hown
      have hrw : Reads wr wr.heap.size 1 Aw k ((fs.map (·.1)).map (Value.int .i64)) := by
        rw [← wcells_all fs, unhide HL]
        exact Reads.of_own hown
      have HC := hide (wireSize_any Aw k cw (fs.map (·.1)) _ wr (by rw [List.length_map]; exact unhide HL) (by omega) hrw)
      clear hrw
      have HW := hide (And.intro hown hb)
      have hsz := hb.size
      clear hown hb
      rcases sizeP_cases (fs.map (·.1)) with hs | hs | ⟨N, hs, h40, hw60, hN⟩
      · have HC2 := hide (by have h := unhide HC; rw [hs] at h; exact h)
        have HP := hide (show packP fs = ([], 1) by unfold packP; rw [hs]; rfl)
        clear HC hs
        go_wp2_with fail
        refine (unhide HC2).mono ?_
        rintro e w' ⟨rfl, rfl⟩
        go_wp2_with fail
        go_ret2
        exact ⟨_, by rw [unhide HP]; rfl, by rw [unhide HP]; exact ⟨World.ownsRow_nil _ _ _ _, (unhide HW).2⟩⟩
      · have HC2 := hide (by have h := unhide HC; rw [hs] at h; exact h)
        have HP := hide (show packP fs = ([], 2) by unfold packP; rw [hs]; rfl)
        clear HC hs
        go_wp2_with fail
        refine (unhide HC2).mono ?_
        rintro e w' ⟨rfl, rfl⟩
        go_wp2_with fail
        go_ret2
        exact ⟨_, by rw [unhide HP]; rfl, by rw [unhide HP]; exact ⟨World.ownsRow_nil _ _ _ _, (unhide HW).2⟩⟩
      · have HC2 := hide (by have h := unhide HC; rw [hs] at h; exact h)
        have HP := hide (show packP fs = if fs.all fitsF then (bytesOf (allBits fs) N, 0) else ([], 12) by unfold packP; rw [hs]; simp)
        rw [← allBits_len] at hN
        have hN2 : 8 * N ≤ (allBits fs).length + 7 := by omega
        have hN3 : (allBits fs).length ≤ 8 * N := by omega
        have hk40 : k ≤ 40 := by rw [List.length_map, unhide HL] at h40; exact h40
        have hN4 : N ≤ 300 := by
          have := sum_le (fs.map (·.1)) hw60
          rw [← allBits_len] at this
          omega
        have HW60 := hide hw60
        clear HC hs hN h40 hw60
        obtain ⟨i8, hi8, hz80, hz81, hz82⟩ := info_parts info_u8
        have hmk := fun W => run_make_rowN (P := Tryd.prog) 40 5 i8 _ Tryd.underlying40 hi8 hz80 .i64 .i64 N N (Nat.le_refl _) (by rw [hz82]; omega) (by omega) W
        rw [hz81] at hmk
        go_wp2_with fail
        refine (unhide HC2).mono ?_
        rintro e w' ⟨rfl, rfl⟩
        go_wp2_with fail
        obtain ⟨wo, rfl⟩ : ∃ wo : World, wo = wr := ⟨_, rfl⟩
        go_loopw [39] (fun i wx => ∃ (j : Nat), j ≤ k ∧ i = .int .i64 j ∧ PackAt w wx (wo.heap.size + 1) wo.heap.size N (allBits (fs.take j)) ∧ Hid ((fs.take j).all fitsF = true)) (fun i _ => k - (intOf i).toNat)
        case atStart =>
          refine ⟨0, Nat.zero_le _, rfl, ⟨?_, hsz, rfl, ?_, ?_⟩, rfl⟩
          · exact (((unhide HW).2.alloc hsz _).alloc (by simp; omega) _)
          · have := Blk.new (wo.alloc (.cells (madeCells #[.int .u8 0] N) 5)) 155 #[.slice (some ⟨wo.heap.size, 0, none⟩) N N, .int .i64 0]
            simpa [allBits] using this
          · have := (Blk.new wo 5 (madeCells #[.int .u8 0] N)).alloc (.cells #[.slice (some ⟨wo.heap.size, 0, none⟩) N N, .int .i64 0] 155)
            have e : ((bytesOf (allBits (fs.take 0)) N).map (Value.int .u8)).toArray = madeCells #[.int .u8 0] N := by
              rw [← Array.toList_inj, toList_madeCells_one]
              simp [allBits, bytesOf_nil]
            rw [e]
            exact this
        case round =>
          obtain ⟨j, hj, rfl, HA, HO⟩ := hrel
          have HA' := hide HA
          by_cases hlt2 : j < k
          · obtain ⟨b, o, f, rfl, hab, hf, hc⟩ := at_row fldCells_len (by omega) ((unhide HR).below HA.1) hlt2 (unhide HL)
            obtain ⟨wd, v⟩ := f
            have hwd := unhide HW60 wd (List.mem_map.2 ⟨_, List.mem_of_getElem? hf, rfl⟩)
            obtain ⟨wd, rfl⟩ := Int.eq_ofNat_of_zero_le (show 0 ≤ wd by omega)
            have hwd1 : 1 ≤ wd := by omega
            have hwd2 : wd ≤ 60 := by omega
            have c0 : wr.cell? ⟨b, o + j * 2, none⟩ = some (.int .i64 wd) := hc 0 _ rfl
            have c1 : wr.cell? ⟨b, o + j * 2 + 1, none⟩ = some (.int .i64 v) := hc 1 _ rfl
            have HF := hide hf
            have hlenj := allBits_take_le fs (j + 1)
            rw [allBits_snoc fs j _ hf, List.length_append, fieldBits_len] at hlenj
            simp only [Int.toNat_natCast] at hlenj
            have HLJ := hide hlenj
            have hszx := HA.1.size
            clear hc hf hwd HA hlenj
            have HNO : fitsF ((wd : Int), v) = false → Hid (packP fs = ([], 12)) := by
              intro hno
              have : fs.all fitsF = false := by
                rw [List.all_eq_false]
                exact ⟨_, List.mem_of_getElem? (unhide HF), by rw [hno]; simp⟩
              exact hide (by rw [unhide HP, this]; rfl)
            by_cases hv0 : v < 0
            · have HQ := HNO (by simp [fitsF]; omega)
              clear HNO
              go_wp2_with fail
              go_ret2
              exact ⟨_, by rw [unhide HQ]; rfl, by rw [unhide HQ]; exact ⟨World.ownsRow_nil _ _ _ _, (unhide HA').1.alloc hszx _⟩⟩
            · obtain ⟨v, rfl⟩ := Int.eq_ofNat_of_zero_le (show 0 ≤ v by omega)
              clear hv0
              by_cases hfit : v < 2 ^ wd
              · have hdiv : (v : Int) / 2 ^ wd = 0 := by
                  have : ((v / 2 ^ wd : Nat) : Int) = 0 := by rw [Nat.div_eq_of_lt hfit]; rfl
                  simpa using this
                clear HNO
                have HFIT := hide hfit
                clear hfit
                go_wp2_with fail
                obtain ⟨wz, rfl⟩ : ∃ wz : World, wz = wr := ⟨_, rfl⟩
                have hv9 : v ≤ 9223372036854775807 := by have := two_pow_60 hwd2; have := unhide HFIT; omega
                have hF : wo.heap.size + 1 < wz.heap.size := (unhide HA').2.2.2.1.lt
                go_loopw [12] (fun q wy => ∃ (t : Nat), t ≤ wd ∧ q = .int .i64 ((wd : Int) - 1 - (t : Int)) ∧ PackAt w wy (wo.heap.size + 1) wo.heap.size N (allBits (fs.take j) ++ (fieldBits ((wd : Int), (v : Int))).take t) ∧
                    Blk wy wz.heap.size 123 #[.int .i64 wd, .int .i64 v]) (fun q _ => (intOf q + 1).toNat)
                case atStart => exact ⟨0, Nat.zero_le _, by simp, by simpa using (unhide HA').alloc _, Blk.new wz _ _⟩
                case round =>
                  obtain ⟨t, ht, rfl, HPA, HB⟩ := hrel
                  by_cases htl : t < wd
                  · have hbl : (allBits (fs.take j) ++ (fieldBits ((wd : Int), (v : Int))).take t).length = (allBits (fs.take j)).length + t := by
                      rw [List.length_append, List.length_take, fieldBits_len]; simp; omega
                    have hle : ∀ b ∈ allBits (fs.take j) ++ (fieldBits ((wd : Int), (v : Int))).take t, b ≤ 1 := by
                      intro b hb
                      rcases List.mem_append.1 hb with hb | hb
                      · exact allBits_le _ b hb
                      · exact fieldBits_le _ b (List.mem_of_mem_take hb)
                    have HPUT := hide (stripPut_at w wr (wo.heap.size + 1) wo.heap.size N (v / 2 ^ (wd - 1 - t) % 2) _ HPA (by have := unhide HLJ; omega) (by have := unhide HLJ; omega) (by omega) hle)
                    rw [List.append_assoc, ← fieldBits_take wd v t htl] at HPUT
                    have b0 : wr.cell? ⟨wz.heap.size, 1, none⟩ = some (.int .i64 v) := by rw [HB.cell]; rfl
                    have hbit := shr_and1 v (wd - 1 - t) hv9
                    have HBH := hide HB
                    clear hbl hle HPA HB
                    go_wp2_with fail
                    refine (unhide HPUT).mono ?_
                    rintro e w1 ⟨rfl, HP1, HB2⟩
                    have HBN := hide (HB2.blk (unhide HBH) (by omega) (by omega))
                    have HPN := hide HP1
                    clear HP1 HB2
                    go_wp2_with fail
                    go_roundw
                    case rel => exact ⟨t + 1, by omega, by go_num, unhide HPN, unhide HBN⟩
                    case measure => simp [intOf]; omega
                  · obtain rfl : t = wd := by omega
                    have HPN := hide HPA
                    clear HPA HB
                    go_wp2_with fail
                    go_roundw
                    case rel =>
                      refine ⟨j + 1, by omega, by go_num, ?_, ?_⟩
                      · have h := unhide HPN
                        have htk : (fieldBits ((t : Int), (v : Int))).take t = fieldBits ((t : Int), (v : Int)) := List.take_of_length_le (by rw [fieldBits_len]; simp)
                        rw [htk, ← allBits_snoc fs j _ (unhide HF)] at h
                        exact h
                      · show (fs.take (j + 1)).all fitsF = true
                        rw [take_snoc fs j _ (unhide HF), List.all_append, unhide HO]
                        have := unhide HFIT
                        simp only [List.all_cons, List.all_nil, Bool.and_true, Bool.true_and, fitsF, Int.toNat_natCast, decide_eq_true_eq]
                        exact ⟨by omega, by exact_mod_cast this⟩
                    case measure => simp [intOf]; omega
              · have HQ := HNO (by simp only [fitsF, Int.toNat_natCast, decide_eq_false_iff_not]; intro h; exact hfit (by have := h.2; exact_mod_cast this))
                have hdiv : (0 : Int) < (v : Int) / 2 ^ wd := by
                  have h1 : 0 < v / 2 ^ wd := Nat.div_pos (by omega) (Nat.pow_pos (by omega))
                  have : (0 : Int) < ((v / 2 ^ wd : Nat) : Int) := by omega
                  simpa using this
                clear HNO hfit
                go_wp2_with fail
                go_ret2
                exact ⟨_, by rw [unhide HQ]; rfl, by rw [unhide HQ]; exact ⟨World.ownsRow_nil _ _ _ _, (unhide HA').1.alloc hszx _⟩⟩
          · obtain rfl : j = k := by omega
            have hall : fs.take j = fs := List.take_of_length_le (by rw [unhide HL]; exact Nat.le_refl _)
            have HQ := hide (show packP fs = (bytesOf (allBits fs) N, 0) by rw [unhide HP]; have h := unhide HO; rw [hall] at h; rw [h]; rfl)
            rw [hall] at HA HA'
            clear hall
            have d0 : wr.cell? ⟨wo.heap.size + 1, 0, none⟩ = some (.slice (some ⟨wo.heap.size, 0, none⟩) N N) := by rw [HA.2.2.2.1.cell]; rfl
            clear HA
            go_wp2_with fail
            go_ret2
            refine ⟨_, by rw [unhide HQ]; rfl, ?_⟩
            rw [unhide HQ]
            obtain ⟨g1, g2, _, g4, g5⟩ := unhide HA'
            refine ⟨⟨by simp [bytesOf], .inr ⟨wo.heap.size, N, _, by simp [bytesOf], g2, g5, by simp [bytesOf], by unfold maxLen; omega, by simp [bytesOf], by simp only [bytesOf, List.length_map, List.length_range, Nat.mul_one]; exact List.take_of_length_le (by simp)⟩⟩, g1⟩
end
section
open Go.RowKit
theorem own_blk_ne' {w : World} {base : Nat} {e : TypeId} {size n : Nat} {v : Value} {xs : List Value} {g : Nat} {t : TypeId} {cs : Array Value} (h : w.ownsRow base e size v n xs) (hg : Blk w g t cs) (hne : e ≠ t) : some g ≠ v.ownBlock :=
  fun he => own_blk_ne h hg hne he.symm
end
end Go.Proofs.YtbolcebmbpepdaaDoor
