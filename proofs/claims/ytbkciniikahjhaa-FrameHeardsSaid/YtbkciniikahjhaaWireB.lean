/- The contract of wire.Pack over whatever fields. Conditions: none beyond what each theorem states. -/
import Derived.Test.YtbkciniikahjhaaWireP
namespace Go.Proofs.Ytbkciniikahjhaa
open Go.RowKit
set_option linter.unusedVariables false

def fldCells (f : Int × Int) : List Value := [.int .i64 f.1, .int .i64 f.2]
theorem fldCells_len (f : Int × Int) : (fldCells f).length = 2 := rfl
def wcells (fs : List (Int × Int)) (k : Nat) : List Value := ((fs.take k).map (·.1)).map (Value.int .i64)
theorem wcells_zero (fs : List (Int × Int)) : wcells fs 0 = [] := rfl
theorem wcells_succ (fs : List (Int × Int)) (k : Nat) (f : Int × Int) (h : fs[k]? = some f) : wcells fs (k + 1) = wcells fs k ++ [.int .i64 f.1] := by
  simp [wcells, take_snoc fs k f h]
theorem wcells_all (fs : List (Int × Int)) : wcells fs fs.length = (fs.map (·.1)).map (Value.int .i64) := by simp [wcells]
theorem info_int : (Try.prog.info? 3).map (fun i => (i.zero, i.size, i.bytes)) = some (some (.int .i64 0), 1, 8) := by kernel_rfl
theorem info_u8 : (Try.prog.info? 5).map (fun i => (i.zero, i.size, i.bytes)) = some (some (.int .u8 0), 1, 1) := by kernel_rfl

theorem szGo_ok (zs : List Int) (b N : Nat) (h : szGo zs b = ((N : Int), 0)) : (∀ z ∈ zs, 1 ≤ z ∧ z ≤ 60) ∧ N = (b + (zs.map Int.toNat).sum + 7) / 8 := by
  induction zs generalizing b with
  | nil => simp only [szGo, Prod.mk.injEq] at h; exact ⟨by simp, by simp; omega⟩
  | cons z l ih =>
    rw [szGo] at h
    by_cases h1 : z < 1 ∨ 60 < z
    · rw [if_pos h1] at h; simp at h
    · rw [if_neg h1] at h
      obtain ⟨z, rfl⟩ := Int.eq_ofNat_of_zero_le (show 0 ≤ z by omega)
      have := ih (b + z) (by rw [← h]; simp)
      refine ⟨fun y hy => ?_, by rw [this.2]; simp; omega⟩
      rcases List.mem_cons.1 hy with rfl | hy
      · omega
      · exact this.1 y hy
theorem szGo_cases (zs : List Int) (b : Nat) : szGo zs b = (0, 2) ∨ ∃ N : Nat, szGo zs b = ((N : Int), 0) := by
  induction zs generalizing b with
  | nil => exact .inr ⟨(b + 7) / 8, by simp [szGo]⟩
  | cons z l ih =>
    rw [szGo]
    by_cases h1 : z < 1 ∨ 60 < z
    · exact .inl (by rw [if_pos h1])
    · rw [if_neg h1]
      obtain ⟨z, rfl⟩ := Int.eq_ofNat_of_zero_le (show 0 ≤ z by omega)
      exact ih (b + z)
theorem sizeP_cases (zs : List Int) : (sizeP zs = (0, 1)) ∨ (sizeP zs = (0, 2)) ∨ ∃ N : Nat, sizeP zs = ((N : Int), 0) ∧ zs.length ≤ 40 ∧ (∀ z ∈ zs, 1 ≤ z ∧ z ≤ 60) ∧ N = ((zs.map Int.toNat).sum + 7) / 8 := by
  unfold sizeP
  by_cases h : 40 < zs.length
  · exact .inl (by rw [if_pos h])
  · rw [if_neg h]
    rcases szGo_cases zs 0 with h1 | ⟨N, h1⟩
    · exact .inr (.inl h1)
    · have := szGo_ok zs 0 N h1
      exact .inr (.inr ⟨N, h1, by omega, this.1, by simpa using this.2⟩)
theorem allBits_len (fs : List (Int × Int)) : (allBits fs).length = ((fs.map (·.1)).map Int.toNat).sum := by
  induction fs with
  | nil => rfl
  | cons f l ih =>
    have : allBits (f :: l) = fieldBits f ++ allBits l := by simp [allBits]
    rw [this, List.length_append, ih, fieldBits_len]
    simp
theorem allBits_snoc (fs : List (Int × Int)) (k : Nat) (f : Int × Int) (h : fs[k]? = some f) : allBits (fs.take (k + 1)) = allBits (fs.take k) ++ fieldBits f := by
  rw [take_snoc fs k f h]; simp [allBits]
theorem allBits_take_le (fs : List (Int × Int)) (k : Nat) : (allBits (fs.take k)).length ≤ (allBits fs).length := by
  have e : allBits fs = allBits (fs.take k) ++ allBits (fs.drop k) := by
    unfold allBits
    rw [← List.flatMap_append, List.take_append_drop]
  rw [e, List.length_append]
  omega
theorem sum_le (zs : List Int) (h : ∀ z ∈ zs, 1 ≤ z ∧ z ≤ 60) : (zs.map Int.toNat).sum ≤ 60 * zs.length := by
  induction zs with
  | nil => simp
  | cons z l ih =>
    have h1 := h z (by simp)
    have h2 := ih (fun y hy => h y (by simp [hy]))
    simp only [List.map_cons, List.sum_cons, List.length_cons]
    omega
theorem fieldBits_take (w : Nat) (v : Nat) (t : Nat) (ht : t < w) : (fieldBits ((w : Int), (v : Int))).take (t + 1) = (fieldBits ((w : Int), (v : Int))).take t ++ [v / 2 ^ (w - 1 - t) % 2] := by
  refine take_snoc _ t _ ?_
  simp [fieldBits, ht]

/-- what the second loop keeps: the strip's block, the row of bytes -/
def PackAt (W w : World) (g h N : Nat) (bs : List Nat) : Prop :=
  Below W.heap.size W w ∧ W.heap.size ≤ h ∧ g = h + 1 ∧ Blk w g 91 #[.slice (some ⟨h, 0, none⟩) N N, .int .i64 bs.length] ∧ Blk w h 5 ((bytesOf bs N).map (Value.int .u8)).toArray
theorem PackAt.put {W w : World} {g h N : Nat} {bs : List Nat} (H : PackAt W w g h N bs) (b : Nat) (hn : bs.length / 8 < N) :
    PackAt W (((w.setCell ⟨h, bs.length / 8, none⟩ (.int .u8 ((byteOf bs (bs.length / 8) + b * 2 ^ (7 - bs.length % 8) : Nat) : Int))).setCell ⟨g, 1, none⟩ (.int .i64 (bs.length + 1))).drew) g h N (bs ++ [b]) := by
  obtain ⟨hb, hh, rfl, h1, h2⟩ := H
  have h1' := ((h1.far (p := ⟨h, bs.length / 8, none⟩) (by simp) (.int .u8 ((byteOf bs (bs.length / 8) + b * 2 ^ (7 - bs.length % 8) : Nat) : Int))).set_ 1 (.int .i64 (bs.length + 1))).drew
  have h2' := ((h2.set_ (bs.length / 8) (.int .u8 ((byteOf bs (bs.length / 8) + b * 2 ^ (7 - bs.length % 8) : Nat) : Int))).far (p := ⟨h + 1, 1, none⟩) (by simp) (.int .i64 (bs.length + 1))).drew
  refine ⟨((hb.setCell (by simpa using hh) _).setCell (by simp; omega) _).drew, hh, rfl, ?_, ?_⟩
  · simpa using h1'
  · rw [bytesOf_snoc bs b N hn]
    have e : (((bytesOf bs N).set (bs.length / 8) ((byteOf bs (bs.length / 8) + b * 2 ^ (7 - bs.length % 8) : Nat) : Int)).map (Value.int .u8)).toArray =
        (((bytesOf bs N).map (Value.int .u8)).toArray).setIfInBounds (bs.length / 8) (.int .u8 ((byteOf bs (bs.length / 8) + b * 2 ^ (7 - bs.length % 8) : Nat) : Int)) := by
      simp [List.map_set]
    rw [e]
    exact h2'
theorem PackAt.alloc {W w : World} {g h N : Nat} {bs : List Nat} (H : PackAt W w g h N bs) (o : Obj) : PackAt W (w.alloc o) g h N bs :=
  ⟨H.1.alloc H.1.size o, H.2.1, H.2.2.1, H.2.2.2.1.alloc o, H.2.2.2.2.alloc o⟩
theorem shr_and1 (v j : Nat) (hv : v ≤ 9223372036854775807) : bits .and .i64 ((v : Int) / 2 ^ j) 1 = ((v / 2 ^ j % 2 : Nat) : Int) := by
  have e : ((v:Int) / 2 ^ j) = ((v / 2 ^ j : Nat) : Int) := by simp
  have hd : v / 2 ^ j ≤ v := Nat.div_le_self _ _
  rw [e, show (1:Int) = ((1:Nat):Int) from rfl, i64_and_nat _ _ (by omega) (by omega), Nat.and_one_is_mod]
theorem two_pow_60 {wd : Nat} (h : wd ≤ 60) : 2 ^ wd ≤ 1152921504606846976 := Nat.le_trans (Nat.pow_le_pow_right (by omega) h) (by omega)
theorem PackAt.reads {W w : World} {g h N : Nat} {bs : List Nat} (H : PackAt W w g h N bs) (hn : bs.length / 8 < N) :
    w.cell? ⟨g, 0, none⟩ = some (.slice (some ⟨h, 0, none⟩) N N) ∧ w.cell? ⟨g, 1, none⟩ = some (.int .i64 bs.length) ∧ w.cell? ⟨h, bs.length / 8, none⟩ = some (.int .u8 (byteOf bs (bs.length / 8))) ∧
      w.frozen? ⟨g, 1, none⟩ = false ∧ w.frozen? ⟨h, bs.length / 8, none⟩ = false ∧ h ≠ g := by
  obtain ⟨hb, hh, rfl, h1, h2⟩ := H
  refine ⟨by rw [h1.cell]; rfl, by rw [h1.cell]; rfl, ?_, h1.frozen 1, h2.frozen _, by omega⟩
  rw [h2.cell]
  simp [bytesOf, hn]

/-- all blocks but two are as they were -/
def But2 (w w' : World) (g h : Nat) : Prop := w'.heap.size = w.heap.size ∧ ∀ b, b ≠ g → b ≠ h → w'.heap[b]? = w.heap[b]?
theorem But2.blk {w w' : World} {g h b : Nat} {t : TypeId} {cs : Array Value} (H : But2 w w' g h) (hb : Blk w b t cs) (hg : b ≠ g) (hh : b ≠ h) : Blk w' b t cs := (H.2 b hg hh).trans hb

theorem stripPut_at (W w : World) (g h N bit : Nat) (bs : List Nat) (H : PackAt W w g h N bs) (hn : bs.length / 8 < N) (hat : bs.length ≤ 1000000) (hbit : bit ≤ 1) (hle : ∀ b ∈ bs, b ≤ 1) :
    Calls Try.prog 56 #[.pointer (some ⟨g, 0, none⟩), .int .i64 bit] w fun e w' => e = .returned (.tuple #[]) ∧ PackAt W w' g h N (bs ++ [bit]) ∧ But2 w w' g h := by
  obtain ⟨d0, d1, d2, e1, e2, e3⟩ := H.reads hn
  refine (stripPut_any g h N N bs.length bit (byteOf bs (bs.length / 8)) w hn (Nat.le_refl _) hat hbit (byteOf_le _ hle _) (byteOf_low _) d0 d1 d2 e1 e2 e3).mono ?_
  rintro e w' ⟨rfl, rfl⟩
  refine ⟨rfl, H.put bit hn, by simp [World.setCell, World.drew], fun b hg hh => ?_⟩
  exact (Below.heap_setCell _ _ _ _ (by simpa using hg)).trans (Below.heap_setCell _ _ _ _ (by simpa using hh))
end Go.Proofs.Ytbkciniikahjhaa
