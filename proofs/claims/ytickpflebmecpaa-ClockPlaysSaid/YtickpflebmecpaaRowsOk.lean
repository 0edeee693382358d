/- Rows of numbers that were made on the way and are only read (a list of own rows, not necessarily apart), a header of them that is written cell by cell. Conditions: none beyond what each theorem states. -/
import Derived.Test.YtickpflebmecpaaOwn
namespace Go.Proofs.Ytickpflebmecpaa
open Go.RowKit
set_option linter.unusedVariables false

def RowsOk (w : World) (B0 : Nat) (L : List ORw) : Prop := ∀ r ∈ L, ORw.ok r w B0
section
variable {w w' : World} {B0 : Nat} {L L' : List ORw} {r : ORw}
theorem RowsOk.nil (w : World) (B0 : Nat) : RowsOk w B0 [] := fun _ h => by cases h
theorem RowsOk.below (h : RowsOk w B0 L) (hb : Below w.heap.size w w') : RowsOk w' B0 L := fun r hr => (h r hr).below hb (h r hr).2.2.2.lt
theorem RowsOk.far {g : Nat} {t : TypeId} {cs : Array Value} (h : RowsOk w B0 L) (hb : Blk w g t cs) (hne : t ≠ 3) (p : Nat) (u : Value) : RowsOk (w.setCell ⟨g, p, none⟩ u) B0 L :=
  fun r hr => ⟨(h r hr).1, (h r hr).2.1, (h r hr).2.2.1, (Below.heap_setCell w ⟨g, p, none⟩ u r.g (fun e => Blk.ne_ (h r hr).2.2.2 hb (Ne.symm hne) e)).trans (h r hr).2.2.2⟩
theorem RowsOk.apart {g : Nat} (h : RowsOk w B0 L) (hg : ∀ r ∈ L, r.g ≠ g) (p : Nat) (u : Value) : RowsOk (w.setCell ⟨g, p, none⟩ u) B0 L :=
  fun r hr => ⟨(h r hr).1, (h r hr).2.1, (h r hr).2.2.1, (Below.heap_setCell w ⟨g, p, none⟩ u r.g (hg r hr)).trans (h r hr).2.2.2⟩
theorem RowsOk.grown {base size n : Nat} {e : TypeId} {v : Value} {xs : List Value} (h : RowsOk w B0 L) (hown : w.ownsRow base e size v n xs) (hne : e ≠ 3) (hg : w.grownBy w' v.ownBlock) : RowsOk w' B0 L :=
  fun r hr => ⟨(h r hr).1, (h r hr).2.1, (h r hr).2.2.1, (hg.block r.g (h r hr).2.2.2.lt (Ne.symm (own_blk_ne hown (h r hr).2.2.2 hne))).trans (h r hr).2.2.2⟩
theorem RowsOk.app (h : RowsOk w B0 L) (h' : RowsOk w B0 L') : RowsOk w B0 (L ++ L') := fun r hr => by rcases List.mem_append.1 hr with h1 | h1; exact h r h1; exact h' r h1
theorem RowsOk.one (h : r.ok w B0) : RowsOk w B0 [r] := fun x hx => by rw [List.mem_singleton] at hx; subst hx; exact h
theorem RowsOk.set (h : RowsOk w B0 L) (hr : r.ok w B0) (k : Nat) : RowsOk w B0 (L.set k r) := fun x hx => by
  rcases List.mem_or_eq_of_mem_set hx with h1 | h1
  · exact h x h1
  · subst h1; exact hr
theorem RowsOk.lt (h : RowsOk w B0 L) : ∀ r ∈ L, r.g < w.heap.size := fun r hr => (h r hr).2.2.2.lt
/-- a table of them reads as a table -/
theorem rowsok_tab {base : Nat} {v : Value} (h : w.ownsRow base 22 1 v L.length (L.map ORw.val)) (hL : RowsOk w B0 L) : ∃ A c, v = .slice A L.length c ∧ L.length ≤ c ∧ c ≤ maxLen ∧ Tab w w.heap.size A L.length (L.map ORw.rd) := by
  have hr : Reads w w.heap.size 1 (match v with | .slice A _ _ => A | _ => none) L.length (L.map ORw.val) := by
    obtain ⟨A, c, rfl, _⟩ := own_slice h
    exact Reads.of_own h
  have hcap : ∃ A c, v = .slice A L.length c ∧ L.length ≤ c ∧ c ≤ maxLen := by
    rcases h.2 with ⟨rfl, e⟩ | ⟨g, cap, cur, rfl, _, _, h1, h2, _⟩
    · exact ⟨none, 0, by rw [e], by omega, Nat.zero_le _⟩
    · exact ⟨_, cap, rfl, h1, h2⟩
  obtain ⟨A, c, rfl, h1, h2⟩ := hcap
  refine ⟨A, c, rfl, h1, h2, by simp, ?_, fun r hr => ?_⟩
  · rw [List.map_map]
    exact hr
  · obtain ⟨s, hs, rfl⟩ := List.mem_map.1 hr
    exact (hL s hs).read
/-- the header: the first cells hold rows, the others nothing yet -/
def Hdr (w : World) (g : Nat) (L : List ORw) (m : Nat) : Prop := Blk w g 22 (L.map ORw.val ++ List.replicate m (Value.slice none 0 0)).toArray
theorem Hdr.cell {g m k : Nat} (h : Hdr w g L m) (hr : L[k]? = some r) : w.cell? ⟨g, k, none⟩ = some (.slice (some ⟨r.g, 0, none⟩) r.zs.length r.cap) := by
  have hl := (List.getElem?_eq_some_iff.1 hr).1
  rw [Blk.cell h k, List.getElem?_toArray, List.getElem?_append_left (by simpa using hl), List.getElem?_map, hr]
  rfl
theorem Hdr.next {g m : Nat} (h : Hdr w g L (m + 1)) : w.cell? ⟨g, L.length, none⟩ = some (.slice none 0 0) := by
  rw [Blk.cell h, List.getElem?_toArray, List.getElem?_append_right (by simp)]
  simp
theorem Hdr.push {g m : Nat} (h : Hdr w g L (m + 1)) (r : ORw) : Hdr (w.setCell ⟨g, L.length, none⟩ r.val) g (L ++ [r]) m := by
  have h1 := Blk.set_ h L.length r.val
  unfold Hdr
  have e : (L.map ORw.val ++ List.replicate (m + 1) (Value.slice none 0 0)).toArray.setIfInBounds L.length r.val = ((L ++ [r]).map ORw.val ++ List.replicate m (Value.slice none 0 0)).toArray := by
    rw [← Array.toList_inj]
    simp only [Array.toList_setIfInBounds]
    rw [List.set_append_right _ _ (by simp), List.length_map, Nat.sub_self, List.replicate_succ, List.set_cons_zero]
    simp
  rw [e] at h1
  exact h1
theorem Hdr.put {g m k : Nat} (h : Hdr w g L m) (hk : k < L.length) (r : ORw) : Hdr (w.setCell ⟨g, k, none⟩ r.val) g (L.set k r) m := by
  have h1 := Blk.set_ h k r.val
  unfold Hdr
  have e : (L.map ORw.val ++ List.replicate m (Value.slice none 0 0)).toArray.setIfInBounds k r.val = ((L.set k r).map ORw.val ++ List.replicate m (Value.slice none 0 0)).toArray := by
    rw [← Array.toList_inj]
    simp only [Array.toList_setIfInBounds]
    rw [List.set_append_left _ _ (by simpa using hk), List.map_set]
  rw [e] at h1
  exact h1
end
/-- one more row is made, and laid into the header -/
theorem mk_step {w : World} {B0 g m s : Nat} {L : List ORw} (H1 : Hdr w g L (m + 1)) (H2 : RowsOk w B0 L) (hB0 : B0 ≤ w.heap.size) (hs : s ≤ maxLen) {k : Nat} (hk : L.length = k) :
    (w.alloc (.cells (madeCells #[Value.int .i64 0] s) 3)).cell? ⟨g, k, none⟩ = some (.slice none 0 0) ∧ (w.alloc (.cells (madeCells #[Value.int .i64 0] s) 3)).frozen? ⟨g, k, none⟩ = false ∧
    Hdr ((w.setCell ⟨g, k, none⟩ (.slice (some ⟨w.heap.size, 0, none⟩) s s)).alloc (.cells (madeCells #[Value.int .i64 0] s) 3)) g (L ++ [⟨w.heap.size, s, List.replicate s 0, []⟩]) m ∧
    RowsOk ((w.setCell ⟨g, k, none⟩ (.slice (some ⟨w.heap.size, 0, none⟩) s s)).alloc (.cells (madeCells #[Value.int .i64 0] s) 3)) B0 (L ++ [⟨w.heap.size, s, List.replicate s 0, []⟩]) := by
  subst hk
  rw [← World.setCell_alloc_past _ g L.length _ (Blk.lt H1)]
  have h1 : Hdr (w.alloc (.cells (madeCells #[Value.int .i64 0] s) 3)) g L (m + 1) := Blk.alloc H1 _
  have hb := (Below.refl w.heap.size w).alloc (Nat.le_refl _) (.cells (madeCells #[Value.int .i64 0] s) 3)
  have hI : IRow (w.alloc (.cells (madeCells #[Value.int .i64 0] s) 3)) w.heap.size (List.replicate s 0) [] := by
    unfold IRow
    have e : ((List.replicate s (0 : Int)).map (Value.int .i64) ++ []).toArray = madeCells #[Value.int .i64 0] s := by
      rw [← Array.toList_inj]
      simp [toList_madeCells_one]
    rw [e]
    exact Blk.new w 3 _
  have hr : ORw.ok ⟨w.heap.size, s, List.replicate s 0, []⟩ (w.alloc (.cells (madeCells #[Value.int .i64 0] s) 3)) B0 := ⟨hB0, by simp, hs, hI⟩
  have hh : Blk (w.alloc (.cells (madeCells #[Value.int .i64 0] s) 3)) g 22 _ := h1
  have hv : ORw.val ⟨w.heap.size, s, List.replicate s 0, []⟩ = .slice (some ⟨w.heap.size, 0, none⟩) s s := by simp [ORw.val]
  have hp := h1.push ⟨w.heap.size, s, List.replicate s 0, []⟩
  rw [hv] at hp
  exact ⟨h1.next, Blk.frozen h1 _, hp, ((H2.below hb).app (RowsOk.one hr)).far hh (by decide) _ _⟩
theorem set_map_range {α : Type} (f f' : Nat → α) (s p : Nat) (x : α) (hx : p < s → f' p = x) (h : ∀ q, q < s → q ≠ p → f' q = f q) : ((List.range s).map f).set p x = (List.range s).map f' := by
  apply List.ext_getElem?
  intro q
  rw [List.getElem?_set]
  by_cases e : p = q
  · subst e
    rw [if_pos rfl]
    by_cases hq : p < s
    · rw [if_pos (by simpa using hq), List.getElem?_map, List.getElem?_range hq]
      simp [hx hq]
    · rw [if_neg (by simpa using hq), List.getElem?_eq_none (by simp; omega)]
  · rw [if_neg e]
    by_cases hq : q < s
    · rw [List.getElem?_map, List.getElem?_map, List.getElem?_range hq]
      simp [h q hq (Ne.symm e)]
    · rw [List.getElem?_eq_none (by simp; omega), List.getElem?_eq_none (by simp; omega)]
theorem Reads.takeRows {α : Type} {cells : α → List Value} {size : Nat} (hs : ∀ x, (cells x).length = size) {w : World} {B n : Nat} {A : Option Addr} {xs : List α} (h : Reads w B size A n (xs.flatMap cells)) (hl : xs.length = n) {k : Nat} (hk : k ≤ n) : Reads w B size A k ((xs.take k).flatMap cells) := by
  have hlen : ∀ l : List α, (l.flatMap cells).length = l.length * size := by
    intro l
    induction l with
    | nil => simp
    | cons x l ih => simp [List.flatMap_cons, hs, ih, Nat.succ_mul, Nat.add_comm]
  refine ⟨by rw [hlen, List.length_take]; congr 1; omega, fun hn => ?_⟩
  obtain ⟨ad, e, hb, hc⟩ := h.2 (by omega)
  refine ⟨ad, e, hb, fun j u hu => hc j u ?_⟩
  have e2 : xs.flatMap cells = (xs.take k).flatMap cells ++ (xs.drop k).flatMap cells := by rw [← List.flatMap_append, List.take_append_drop]
  rw [e2, List.getElem?_append_left (List.getElem?_eq_some_iff.1 hu).1]
  exact hu
end Go.Proofs.Ytickpflebmecpaa
