/- gossip.Store: how it lies in memory; Learn, next. Conditions: none beyond what each theorem states. -/
import Derived.Test.YthmnfbnaeggknaaRegM
namespace Go.Proofs.Ythmnfbnaeggknaa
open Go.RowKit
set_option linter.unusedVariables false

/-- the entries of a label, and where they lie -/
structure EnR where
  es : List Ent
  A : Option Addr
  c : Nat
def EnR.val (r : EnR) : Value := .slice r.A r.es.length r.c
/-- a store: block 'g' holds the labels' rows -/
structure StoreAt (w : World) (base g : Nat) (S : List EnR) : Prop where
  blk : Blk w g 22 (S.map EnR.val).toArray
  rows : ∀ r ∈ S, w.ownsRow base 25 5 r.val r.es.length (r.es.flatMap entCells)
  small : ∀ r ∈ S, r.es.length ≤ 8
  low : base ≤ g
def EnR.nil : EnR := ⟨[], none, 0⟩
section
variable {w w' : World} {base g : Nat} {S : List EnR}
theorem StoreAt.only {D : Nat → Prop} (h : StoreAt w base g S) (ho : Only D w w') (h1 : ¬ D g) (h2 : ∀ r ∈ S, ∀ k, r.val.ownBlock = some k → ¬ D k) : StoreAt w' base g S :=
  ⟨h.blk.only ho h1, fun r hr => own_only (h.rows r hr) ho (h2 r hr), h.small, h.low⟩
theorem StoreAt.calm (h : StoreAt w base g S) (hb : Below w.heap.size w w') : StoreAt w' base g S :=
  h.only (D := fun _ => False) (Only.of_below hb (fun x h1 h2 => by omega)) (fun e => e) (fun _ _ _ _ e => e)
theorem StoreAt.cell (h : StoreAt w base g S) {i : Nat} {r : EnR} (hi : S[i]? = some r) : w.cell? ⟨g, i, none⟩ = some r.val := by
  rw [h.blk.cell i]
  simp [hi]
theorem StoreAt.set_ (h : StoreAt w base g S) {i : Nat} (hi : i < S.length) {r : EnR} (hr : w.ownsRow base 25 5 r.val r.es.length (r.es.flatMap entCells)) (hs : r.es.length ≤ 8) : StoreAt (w.setCell ⟨g, i, none⟩ r.val) base g (S.set i r) := by
  have hO : Only (fun k => k = g) w (w.setCell ⟨g, i, none⟩ r.val) := only_put (Only.refl _ _) _ _
  have key : ∀ x : EnR, w.ownsRow base 25 5 x.val x.es.length (x.es.flatMap entCells) → (w.setCell ⟨g, i, none⟩ r.val).ownsRow base 25 5 x.val x.es.length (x.es.flatMap entCells) := fun x hx => own_only hx hO fun k hk e => own_blk_ne hx h.blk (by decide) (by rw [hk, e])
  refine ⟨?_, fun x hx => ?_, fun x hx => ?_, h.low⟩
  · have h1 := h.blk.set_ i r.val
    have e : (S.map EnR.val).toArray.setIfInBounds i r.val = ((S.set i r).map EnR.val).toArray := by
      rw [← Array.toList_inj]
      simp [List.map_set]
    rw [e] at h1
    exact h1
  · rcases List.mem_or_eq_of_mem_set hx with h1 | h1
    · exact key x (h.rows x h1)
    · rw [h1]; exact key r hr
  · rcases List.mem_or_eq_of_mem_set hx with h1 | h1
    · exact h.small x h1
    · rw [h1]; exact hs
theorem mergeP_len' (a b : List Ent) : (mergeP a b).1.length ≤ 8 := by
  unfold mergeP
  split
  · split
    · simp
    · dsimp only; omega
  · simp
end
/-- behind Learn -/
def LearnPost (w : World) (base g : Nat) (S : List EnR) (i : Nat) (es : List Ent) (e : Ending) (w' : World) : Prop :=
  e = .returned (.tuple #[]) ∧ ∃ r : EnR, r.es = es ∧ StoreAt w' base g (S.set i r) ∧ Only (fun k => k = g) w w' ∧ ∀ k, r.val.ownBlock = some k → w.heap.size ≤ k

set_option maxRecDepth 100000 in
set_option maxHeartbeats 1000000 in
theorem storeLearn_any (base g m : Nat) (S : List EnR) (w : World) (i : Nat) (x : EnR) (A : Option Addr) (n c : Nat) (b : List Ent) (B : Nat) (h : StoreAt w base g S) (hm : S.length = m) (hx : S[i]? = some x) (hl : b.length = n) (hn : n * 40 ≤ 140737488351232) (hr : Reads w B 5 A n (b.flatMap entCells)) (hB : B ≤ w.heap.size) (hb0 : base ≤ w.heap.size) (hm8 : m ≤ 1000) :
    Calls Try.prog 53 #[.slice (some ⟨g, 0, none⟩) m m, .int .i64 i, .slice A n c] w (LearnPost w base g S i (mergeP x.es b).1) := by
  have hi : i < m := by rw [← hm]; exact (List.getElem?_eq_some_iff.1 hx).1
  have hxr := h.rows x (List.mem_of_getElem? hx)
  have hxs := h.small x (List.mem_of_getElem? hx)
  obtain ⟨xe, xA, xc⟩ := x
  unfold EnR.val at hxr
  dsimp only at hxr hxs
  have c0 : w.cell? ⟨g, i, none⟩ = some (.slice xA xe.length xc) := h.cell hx
  have HME := hide (regMerge_any xA A xe.length xc n c xe b w.heap.size w rfl (by omega) (Reads.of_own hxr) hl hn (hr.more hB) (Nat.le_refl _))
  obtain ⟨q, hq⟩ : ∃ q, q = xe.length := ⟨_, rfl⟩
  rw [← hq] at c0 HME
  have hi' : (i : Int) < (m : Int) := by omega
  have HX := hide h
  have HI := hide (show i < S.length by omega)
  have hlen := mergeP_len' xe b
  dsimp only
  generalize mergeP xe b = r at HME hlen
  obtain ⟨re, rc⟩ := r
  dsimp only at hlen
  have HLE := hide hlen
  have HQ := hide hq
  clear h hx hxr hxs hr hl hlen hq hm
  go_enter Try.func53, Try.ntmps53
  go_wp2_with fail
  refine (unhide HME).mono ?_
  rintro _ w1 ⟨v1, rfl, ho1, hb1⟩
  dsimp only at ho1
  obtain ⟨A1, c1, rfl, _⟩ := own_slice ho1
  have HX1 := hide ((unhide HX).calm hb1)
  have HO1 := hide (own_mono ho1 hb0)
  have HB1 := hide hb1
  have HLW := hide (fun k hk => (ho1.lt k hk).1)
  have y0 : w1.cell? ⟨g, i, none⟩ = some (.slice xA q xc) := by rw [hb1.cell (p := ⟨g, i, none⟩) (unhide HX).blk.lt]; exact c0
  have y0f := (unhide HX1).blk.frozen i
  clear ho1 hb1 c0
  go_wp2_with fail
  go_end0
  have h1 := (unhide HX1).set_ (unhide HI) (r := ⟨re, A1, c1⟩) (unhide HO1) (unhide HLE)
  exact ⟨rfl, ⟨re, A1, c1⟩, rfl, h1, only_put (Only.of_below (unhide HB1) (fun x h1 h2 => by omega)) _ _, unhide HLW⟩

/-- the greatest time -/
def timeL (l : List Ent) (t : Int) : Int := l.foldl (fun t e => max t e.time) t
set_option maxRecDepth 100000 in
set_option maxHeartbeats 1000000 in
theorem storeNext_any (base g m : Nat) (S : List EnR) (w : World) (i : Nat) (x : EnR) (h : StoreAt w base g S) (hm : S.length = m) (hx : S[i]? = some x) (ht : ∀ e ∈ x.es, 0 ≤ e.time ∧ e.time ≤ 2000000) (hm8 : m ≤ 1000) :
    Calls Try.prog 54 #[.slice (some ⟨g, 0, none⟩) m m, .int .i64 i] w fun e w' => e = .returned (.int .i64 (timeL x.es 0 + 1)) ∧ Below w.heap.size w w' := by
  have hi : i < m := by rw [← hm]; exact (List.getElem?_eq_some_iff.1 hx).1
  have hxr := h.rows x (List.mem_of_getElem? hx)
  have hxs := h.small x (List.mem_of_getElem? hx)
  obtain ⟨xe, xA, xc⟩ := x
  unfold EnR.val at hxr
  dsimp only at hxr hxs ht
  dsimp only
  have c0 : w.cell? ⟨g, i, none⟩ = some (.slice xA xe.length xc) := h.cell hx
  obtain ⟨q, hq⟩ : ∃ q, q = xe.length := ⟨_, rfl⟩
  rw [← hq] at c0
  have HRD := hide (show Reads w w.heap.size 5 xA q (xe.flatMap entCells) by rw [hq]; exact Reads.of_own hxr)
  have HQ := hide hq.symm
  have HT := hide ht
  have hi' : (i : Int) < (m : Int) := by omega
  clear h hx hxr ht hm
  go_enter Try.func54, Try.ntmps54
  go_wp2_with fail
  go_loopw [5, 13] (fun t j wr => ∃ (k : Nat) (z : Int), k ≤ q ∧ j = .int .i64 k ∧ t = .int .i64 z ∧ (0 ≤ z ∧ z ≤ 2000000) ∧ Hid (timeL (xe.drop k) z = timeL xe 0) ∧ Below w.heap.size w wr) (fun _ j _ => q - (intOf j).toNat)
  case atStart => exact ⟨0, 0, Nat.zero_le _, rfl, rfl, by omega, rfl, Below.refl _ _⟩
  case round =>
    obtain ⟨k, z, hk, rfl, rfl, hz, HTL, hb⟩ := hrel
    by_cases hlt : k < q
    · obtain ⟨bx, o, e, rfl, _, he, hc⟩ := at_row entCells_len (by omega) ((unhide HRD).below hb) hlt (unhide HQ)
      have e0 : wr.cell? ⟨bx, o + k * 5, none⟩ = some (.int .i64 e.key) := hc 0 _ rfl
      have e1 : wr.cell? ⟨bx, o + k * 5 + 1, none⟩ = some (.int .i64 e.value) := hc 1 _ rfl
      have e2 : wr.cell? ⟨bx, o + k * 5 + 2, none⟩ = some (.int .i64 e.time) := hc 2 _ rfl
      have e3 : wr.cell? ⟨bx, o + k * 5 + 3, none⟩ = some (.int .i64 e.who) := hc 3 _ rfl
      have e4 : wr.cell? ⟨bx, o + k * 5 + 4, none⟩ = some (.bool e.gone) := hc 4 _ rfl
      have het := unhide HT e (List.mem_of_getElem? he)
      have HT2 := hide (show timeL (xe.drop (k + 1)) (max z e.time) = timeL xe 0 by have h := unhide HTL; rw [drop_cons xe k e he] at h; exact h)
      have hkq : (k : Int) < (q : Int) := by omega
      have HB := hide (hb.trans (((Below.refl _ wr).alloc (Nat.le_refl _) (.cells #[.int .i64 e.key, .int .i64 e.value, .int .i64 e.time, .int .i64 e.who, .bool e.gone] 25)).mono hb.size))
      clear hc he hb HTL
      go_wp2_with fail
      go_roundw
      case rel => exact ⟨k + 1, max z e.time, by omega, by go_num, rfl, by omega, HT2, unhide HB⟩
      case measure => simp [intOf]; omega
    · obtain rfl : k = q := by omega
      have HF := hide (show timeL xe 0 = z by have h := unhide HTL; rw [List.drop_of_length_le (by rw [unhide HQ]; exact Nat.le_refl _)] at h; exact h.symm)
      have HB := hide hb
      clear hb HTL
      go_wp2_with fail
      go_ret
      rw [unhide HF]
      exact ⟨rfl, unhide HB⟩
end Go.Proofs.Ythmnfbnaeggknaa
