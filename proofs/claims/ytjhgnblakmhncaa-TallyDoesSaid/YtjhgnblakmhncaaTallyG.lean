/- A copy of a tally of the call's own, behind a pointer: what it holds, and how a row of it is written. Conditions: none beyond what each theorem states. -/
import Derived.Test.YtjhgnblakmhncaaTallyF
namespace Go.Proofs.Ytjhgnblakmhncaa
open Go.RowKit
set_option linter.unusedVariables false

theorem ORs.mono {w : World} {base base' : Nat} {L : List ORw} (h : ORs w base L) (hb : base' ≤ base) : ORs w base' L := ⟨fun i r hr => ⟨Nat.le_trans hb (h.1 i r hr).1, (h.1 i r hr).2⟩, h.2⟩
/-- block 'M' holds a tally of the call's own (base: 'B0'): what each used 'us', the table 'mv', 'n' by 'n' -/
def MState (B0 : Nat) (w0 wr : World) (M : Nat) (A : Option Addr) (c ug uc n : Nat) (us : List Int) (mv : List (List Int)) : Prop :=
  ∃ (u : ORw) (L : List ORw), u.g = ug ∧ u.cap = uc ∧ L.length = n ∧ u.zs = us ∧ L.map (·.zs) = mv ∧ us.length = n ∧ Blk wr M 25 #[.slice A n c, .slice (some ⟨ug, 0, none⟩) n uc] ∧ OTab wr B0 (.slice A n c) L ∧ ORs wr B0 (u :: L) ∧ Below B0 w0 wr
section
variable {B0 : Nat} {w0 wr w2 : World} {M : Nat} {A : Option Addr} {c ug uc n : Nat} {us : List Int} {mv : List (List Int)}
theorem MState.below (h : MState B0 w0 wr M A c ug uc n us mv) : Below B0 w0 wr := by obtain ⟨u, L, _, _, _, _, _, _, _, _, _, h⟩ := h; exact h
theorem MState.blk (h : MState B0 w0 wr M A c ug uc n us mv) : Blk wr M 25 #[.slice A n c, .slice (some ⟨ug, 0, none⟩) n uc] := by obtain ⟨u, L, _, _, _, _, _, _, h, _⟩ := h; exact h
theorem MState.drewN (h : MState B0 w0 wr M A c ug uc n us mv) (k : Nat) : MState B0 w0 (wr.drewN k) M A c ug uc n us mv := by
  obtain ⟨u, L, h1, h2, h3, h4, h5, h6, h7, h8, h9, h10⟩ := h
  exact ⟨u, L, h1, h2, h3, h4, h5, h6, h7, h8, h9, below_drewN h10 k⟩
theorem MState.drew (h : MState B0 w0 wr M A c ug uc n us mv) : MState B0 w0 wr.drew M A c ug uc n us mv := h.drewN 1
/-- the row of what each used -/
theorem MState.used (h : MState B0 w0 wr M A c ug uc n us mv) : ∃ T, B0 ≤ ug ∧ n ≤ uc ∧ uc ≤ maxLen ∧ us.length = n ∧ IRow wr ug us T ∧
    ∀ w2 zs', wr.grownBy w2 (some ug) → IRow w2 ug zs' T → zs'.length = n → MState B0 w0 w2 M A c ug uc n zs' mv := by
  obtain ⟨u, L, rfl, rfl, h3, rfl, h5, h6, h7, h8, h9, h10⟩ := h
  have hu := h9.1 0 u rfl
  refine ⟨u.T, hu.1, by have := hu.2.1; omega, hu.2.2.1, h6, hu.2.2.2, fun w2 zs' hg hI hl => ?_⟩
  have hul : zs'.length = u.zs.length := by rw [hl, h6]
  refine ⟨{ u with zs := zs' }, L, rfl, rfl, h3, rfl, h5, hl, ?_, ?_, h9.upd (i := 0) rfl hg hI hul, ?_⟩
  · exact Blk.grown h7 hg (fun e => by injection e with e; exact Blk.ne_ h7 hu.2.2.2 (by decide) e)
  · exact h8.int_far hu.2.2.2 hg
  · exact h10.trans ⟨hg.os, hg.tape, hg.output, hg.size, fun k hk => by
      by_cases hkk : k < wr.heap.size
      · exact hg.block k hkk (fun e => by injection e with e; have := hu.1; omega)
      · exact absurd h10.size (by
          have : B0 ≤ wr.heap.size := Nat.le_of_lt (Nat.lt_of_le_of_lt hu.1 hu.2.2.2.lt)
          omega)⟩
/-- row k of the table -/
theorem MState.row (h : MState B0 w0 wr M A c ug uc n us mv) {k : Nat} (hk : k < n) : ∃ hb ho g cap zs T, A = some ⟨hb, ho, none⟩ ∧ n ≤ c ∧ c ≤ maxLen ∧ wr.cell? ⟨hb, ho + k, none⟩ = some (.slice (some ⟨g, 0, none⟩) zs.length cap) ∧ B0 ≤ g ∧ zs.length ≤ cap ∧ cap ≤ maxLen ∧ mv[k]? = some zs ∧ IRow wr g zs T ∧
    ∀ w2 zs', wr.grownBy w2 (some g) → IRow w2 g zs' T → zs'.length = zs.length → MState B0 w0 w2 M A c ug uc n us (mv.set k zs') := by
  obtain ⟨u, L, rfl, rfl, h3, rfl, h5, h6, h7, h8, h9, h10⟩ := h
  have hkL : k < L.length := by omega
  have hr : L[k]? = some (L[k]'hkL) := List.getElem?_eq_getElem hkL
  generalize L[k]'hkL = r at hr
  have h0 := h9.1 (k + 1) r (by simpa using hr)
  have hcap : n ≤ c ∧ c ≤ maxLen := by
    rcases h8.2 with ⟨e, _⟩ | ⟨g, cap, cur, e, _, _, e1, e2, _⟩
    · injection e with _ e1 e2; subst e1; exact ⟨Nat.zero_le _, by subst e2; unfold maxLen; omega⟩
    · injection e with _ e3 e4; subst e4; rw [h3] at e1; exact ⟨e1, e2⟩
  have hrd : Reads wr wr.heap.size 1 A n (L.map ORw.val) := by
    have h := h8
    unfold OTab at h
    rw [h3] at h
    exact Reads.of_own h
  obtain ⟨hb, ho, v, eA, _, hv, hc⟩ := at_one hrd hk
  rw [List.getElem?_map, hr] at hv
  injection hv with hv
  refine ⟨hb, ho, r.g, r.cap, r.zs, r.T, eA, hcap.1, hcap.2, by rw [hc, ← hv]; rfl, h0.1, by have := h0.2.1; omega, h0.2.2.1, by rw [← h5, List.getElem?_map, hr]; rfl, h0.2.2.2, fun w2 zs' hg hI hl => ?_⟩
  refine ⟨u, L.set k { r with zs := zs' }, rfl, rfl, by rw [List.length_set]; exact h3, rfl, by rw [List.map_set, h5], h6, ?_, ?_, h9.upd (i := k + 1) (by simpa using hr) hg hI hl, ?_⟩
  · exact Blk.grown h7 hg (fun e => by injection e with e; exact Blk.ne_ h7 h0.2.2.2 (by decide) e)
  · exact (h8.int_far h0.2.2.2 hg).upd hr hl
  · exact h10.trans ⟨hg.os, hg.tape, hg.output, hg.size, fun k hk => by
      by_cases hkk : k < wr.heap.size
      · exact hg.block k hkk (fun e => by injection e with e; have := h0.1; omega)
      · exact absurd h10.size (by
          have : B0 ≤ wr.heap.size := Nat.le_of_lt (Nat.lt_of_le_of_lt h0.1 h0.2.2.2.lt)
          omega)⟩
/-- another box of that type stays -/
theorem blk_tly_grown {g X : Nat} {zs : List Int} {T : List Value} {t : TypeId} {cs : Array Value} (h : Blk wr X t cs) (hI : IRow wr g zs T) (hne : t ≠ 3) (hg : wr.grownBy w2 (some g)) : Blk w2 X t cs :=
  Blk.grown h hg (fun e => by injection e with e; exact Blk.ne_ h hI hne e)
/-- a store into another box of another block keeps it -/
theorem MState.far {X : Nat} {cs : Array Value} (h : MState B0 w0 wr M A c ug uc n us mv) (hX : Blk wr X 25 cs) (hne : M ≠ X) (hB : B0 ≤ X) (p : Nat) (v : Value) : MState B0 w0 (wr.setCell ⟨X, p, none⟩ v) M A c ug uc n us mv := by
  obtain ⟨u, L, h1, h2, h3, h4, h5, h6, h7, h8, h9, h10⟩ := h
  exact ⟨u, L, h1, h2, h3, h4, h5, h6, h7.far hne v, own_set_far h8 hX (by decide) p v, h9.far hX (by decide) p v, h10.setCell hB v⟩
theorem MState.read (h : MState B0 w0 wr M A c ug uc n us mv) : ∃ t : Tly, t.val = .agg #[.slice A n c, .slice (some ⟨ug, 0, none⟩) n uc] ∧ t.ok wr wr.heap.size ∧ t.mv = mv ∧ t.u.zs = us := by
  obtain ⟨u, L, rfl, rfl, h3, rfl, h5, h6, h7, h8, h9, h10⟩ := h
  obtain ⟨A', c', e, hc1, hc2, hT⟩ := otab_tab h8 ⟨fun i r hr => h9.1 (i + 1) r (by simpa using hr), fun i j r s hr hs e => by have h := h9.2 (i + 1) (j + 1) r s (by simpa using hr) (by simpa using hs) e; omega⟩
  injection e with e1 e2 e3
  subst e1 e2 e3
  refine ⟨⟨A, L.length, c, L.map ORw.rd, u.rd⟩, ?_, ⟨hc1, hc2, hT, (h9.1 0 u rfl).read⟩, ?_, rfl⟩
  · unfold Tly.val ORw.rd
    rw [h6]
  · unfold Tly.mv
    rw [List.map_map, ← h5]
    rfl
/-- out of what 'copied' hands back, laid into a box -/
theorem MState.start {v : Value} {u : ORw} {L : List ORw} (h1 : OTab wr B0 v L) (h2 : ORs wr B0 (u :: L)) (h3 : L.map (·.zs) = mv) (h4 : u.zs = us) (h5 : us.length = n) (h6 : mv.length = n) (h7 : Below B0 w0 wr) :
    ∃ A c, v = .slice A n c ∧ MState B0 w0 (wr.alloc (.cells #[.slice A n c, .slice (some ⟨u.g, 0, none⟩) n u.cap] 25)) wr.heap.size A c u.g u.cap n us mv := by
  have hL : L.length = n := by rw [← h6, ← h3, List.length_map]
  obtain ⟨A, c, rfl, _⟩ := otab_tab h1 ⟨fun i r hr => h2.1 (i + 1) r (by simpa using hr), fun i j r s hr hs e => by have h := h2.2 (i + 1) (j + 1) r s (by simpa using hr) (by simpa using hs) e; omega⟩
  rw [hL] at h1 ⊢
  have hb : Below wr.heap.size wr (wr.alloc (.cells #[.slice A n c, .slice (some ⟨u.g, 0, none⟩) n u.cap] 25)) := (Below.refl _ _).alloc (Nat.le_refl _) _
  exact ⟨A, c, rfl, u, L, rfl, rfl, hL, h4, h3, h5, Blk.new _ _ _, own_below h1 hb, h2.below hb, h7.trans (hb.mono (Nat.le_of_lt (Nat.lt_of_le_of_lt (h2.1 0 u rfl).1 (h2.1 0 u rfl).2.2.2.lt)))⟩
end
end Go.Proofs.Ytjhgnblakmhncaa
