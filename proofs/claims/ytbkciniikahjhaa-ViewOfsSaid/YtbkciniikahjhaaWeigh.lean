/- What a datum weighs, part for part: rows within rows take no more than the reach. Conditions: none beyond what each theorem states. -/
import Derived.Test.YtbkciniikahjhaaOpen
namespace Go.Proofs.Ytbkciniikahjhaa
open Go.RowKit Go.ChangeShapes Go.WideShapes Go.Deep
set_option linter.unusedVariables false

section
variable {H : Type} {P : Program}
def Sized (P : Program) (t : TypeId) (d : DataW H) : Prop := ∀ n ∈ d.weights P t, n ≤ reachBytes
theorem sized_arg {ts : List TypeId} {ds : List (DataW H)} (h : (DataW.weightsEach P ts ds).all (· ≤ reachBytes) = true) {j : Nat} {t : TypeId} {d : DataW H} (ht : ts[j]? = some t) (hd : ds[j]? = some d) : Sized P t d :=
  fun n hn => by simpa using List.all_eq_true.1 h _ (DataW.weights_mem_each ht hd n hn)
theorem weightsAll_mem {e : TypeId} : ∀ {l : List (DataW H)} {d : DataW H}, d ∈ l → ∀ n ∈ d.weights P e, n ∈ DataW.weightsAll P e l
  | x :: l, d, hd, n, hn => by
    simp only [DataW.weightsAll, List.mem_append]
    rcases List.mem_cons.1 hd with rfl | h
    · exact .inl hn
    · exact .inr (weightsAll_mem h n hn)
theorem Sized.elem {t e : TypeId} {D sp : List (DataW H)} {d : DataW H} (h : Sized P t (.slice D sp)) (hu : P.underlying t = some (.slice e)) (hd : d ∈ D) : Sized P e d := fun n hn => by
  refine h n ?_
  simp only [DataW.weights, hu]
  exact List.mem_cons_of_mem _ (List.mem_append.2 (.inl (weightsAll_mem hd n hn)))
theorem Sized.part {t : TypeId} {fs : Array Field} {parts : List (DataW H)} {d : DataW H} (h : Sized P t (.agg parts)) (hu : P.underlying t = some (.struct fs)) {j : Nat} {f : Field} (hf : fs[j]? = some f) (hd : parts[j]? = some d) : Sized P f.type d := fun n hn => by
  refine h n ?_
  simp only [DataW.weights, hu]
  exact DataW.weights_mem_each (ts := fs.toList.map (·.type)) (j := j) (by rw [List.getElem?_map, Array.getElem?_toList, hf]; rfl) hd n hn
theorem Sized.len {t e : TypeId} {d : DataW H} {len : Nat} (h : Sized P t d) (hu : P.underlying t = some (.slice e)) (hs : SliceD d len) : len * P.bytesOf e ≤ reachBytes := by
  rcases hs with ⟨D, sp, rfl, rfl⟩ | ⟨rfl, rfl⟩
  · have := h ((D.length + sp.length) * P.bytesOf e) (by simp [DataW.weights, hu])
    exact Nat.le_trans (Nat.mul_le_mul_right _ (by omega)) this
  · simp
end
section
variable {H : Type} {enc : TypeId × Value → H} {P : Program} {w : World} {base : Nat} {spare : Nat → Bool} {held : Bool}
/-- 'rows_reads', with what each row's datum weighs at hand -/
theorem rows_readsW {α : Type} (cells : α → List Value) (G : α → Prop) {t e : TypeId} {fuel size : Nat} {A : Option Addr} {len cap : Nat} {x : DataW H × List MemPlace}
    (ht : P.underlying t = some (.slice e)) (hc : P.cellsOf e = size) (hs0 : 0 < size)
    (hE : ∀ n cs y, DataW.trod enc P w base spare held n e cs = some y → cs.length = size ∧ (Sized P e y.1 → ∃ a, cs = cells a ∧ G a)) (h : DataW.trod enc P w base spare held fuel t [.slice A len cap] = some x) (hs : Sized P t x.1) :
    len ≤ cap ∧ cap ≤ maxLen ∧ SliceD x.1 len ∧ ∃ l : List α, l.length = len ∧ Reads w w.heap.size size A len (l.flatMap cells) ∧ ∀ a ∈ l, G a := by
  obtain ⟨h1, h2, css, D, hcl, hDl, hd, hE', _, hr⟩ := slice_reads (E := fun cs d => Sized P e d → ∃ a, cs = cells a ∧ G a) ht hc hs0 hE h
  have hel : ∀ d ∈ D, Sized P e d := by
    intro d hdm
    obtain ⟨sp, h3 | ⟨_, h4⟩⟩ := hd
    · rw [h3] at hs; exact hs.elem ht hdm
    · rw [h4] at hdm; cases hdm
  have hD : ∀ cs ∈ css, ∃ a, cs = cells a ∧ G a := by
    intro cs hcs
    obtain ⟨i, hi⟩ := List.mem_iff_getElem?.1 hcs
    have hil : i < css.length := (List.getElem?_eq_some_iff.1 hi).1
    exact hE' i cs _ hi (List.getElem?_eq_getElem (show i < D.length by omega)) (hel _ (List.getElem_mem _))
  obtain ⟨as, rfl, ha⟩ := list_map_of cells G css hD
  refine ⟨h1, h2, ?_, as, by simpa using hcl, by rw [List.flatMap_def]; exact hr, ha⟩
  obtain ⟨sp, hd | ⟨hd, hD0⟩⟩ := hd
  · exact .inl ⟨D, sp, hd, hDl⟩
  · exact .inr ⟨hd, by rw [← hDl, hD0]; rfl⟩
/-- the length of a row's datum -/
theorem sliceD_of {t e : TypeId} {fuel : Nat} {A : Option Addr} {len cap : Nat} {x : DataW H × List MemPlace} (ht : P.underlying t = some (.slice e)) (h : DataW.trod enc P w base spare held fuel t [.slice A len cap] = some x) : SliceD x.1 len := by
  rcases open_slice ht h with ⟨hcs, hx⟩ | ⟨a, len', cap', m, n, D, Pl, hcs, hb, hl, hm, hmm, hx, hi⟩
  · simp at hcs
    obtain ⟨rfl, rfl, rfl⟩ := hcs
    subst hx
    exact .inr ⟨rfl, rfl⟩
  · simp at hcs
    obtain ⟨rfl, rfl, rfl⟩ := hcs
    subst hx
    exact .inl ⟨_, _, rfl, by simp⟩
end
end Go.Proofs.Ytbkciniikahjhaa
