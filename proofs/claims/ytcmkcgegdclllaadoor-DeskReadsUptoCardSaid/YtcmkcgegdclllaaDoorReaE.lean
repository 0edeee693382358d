/- What desk.Read finds in memory; contracts of strings.Split and strconv.Atoi as it uses them. Conditions: none beyond what each theorem states. -/
import Derived.Test.YtcmkcgegdclllaaDoorReaD
import Derived.Test.YtcmkcgegdclllaaDoorShR
namespace Go.Proofs.YtcmkcgegdclllaaDoor
open Go.RowKit
set_option linter.unusedVariables false

theorem var_below {w w' : World} {n : String} {cs : Array Value} (h : w.var? Tryd.prog n = some cs) (hb : Below w.heap.size w w') : w'.var? Tryd.prog n = some cs := by
  unfold World.var? at h ⊢
  cases hg : Tryd.prog.globalNamed n with
  | none => simp [hg] at h
  | some g =>
    simp only [hg, Option.bind_some] at h ⊢
    have hlt : g < w.heap.size := by
      rcases Nat.lt_or_ge g w.heap.size with h' | h'
      · exact h'
      · simp [Array.getElem?_eq_none h'] at h
    rw [hb.block g hlt]
    exact h
structure TabR (w : World) : Prop where
  tab : TabS w
  ml : 6 < w.heap.size ∧ ∃ m : Int, w.cell? ⟨6, 0, none⟩ = some (.int .i64 m)
  es : ∃ tp p, w.var? Tryd.prog "strconv.ErrSyntax" = some #[.iface tp p]
  er : ∃ tp p, w.var? Tryd.prog "strconv.ErrRange" = some #[.iface tp p]
theorem TabR.below {w w' : World} (h : TabR w) (hb : Below w.heap.size w w') : TabR w' := by
  obtain ⟨h1, ⟨h2, m, h3⟩, ⟨a, b, h4⟩, ⟨c, d, h5⟩⟩ := h
  exact ⟨h1.below hb, ⟨Nat.lt_of_lt_of_le h2 hb.size, m, (hb.cell (p := ⟨_, 0, none⟩) h2).trans h3⟩, ⟨a, b, var_below h4 hb⟩, ⟨c, d, var_below h5 hb⟩⟩
theorem TabR.words {w : World} (h : TabR w) : WordsAt w := ⟨h.tab.lt, h.tab.word⟩
def AtoiPost (s : ByteArray) (w : World) (e : Ending) (w' : World) : Prop :=
  ((∃ v, Lib.atoiAll s.data.toList = .ok v ∧ e = .returned (.tuple #[.int .i64 v, .nilIface])) ∨ ((∀ v, Lib.atoiAll s.data.toList ≠ .ok v) ∧ ∃ v t pv, e = .returned (.tuple #[.int .i64 v, .iface t pv]))) ∧ Below w.heap.size w w'
theorem atoi_any (s : ByteArray) (w : World) (hs : s.size ≤ 281474976710656) (hT : TabR w) : Calls Tryd.prog 25 #[.string s] w (AtoiPost s w) := by
  cases h : Lib.atoiAll s.data.toList with
  | ok v =>
    refine (Tryd.strconv_Atoi_ok s (by omega) v h w).mono ?_
    rintro _ w' ⟨rfl, hW⟩
    refine ⟨Or.inl ⟨v, h, rfl⟩, ?_⟩
    rcases hW with rfl | ⟨t, rfl⟩
    · exact Below.refl _ _
    · exact Lib.bytesWorld_below _ _ _
  | range =>
    obtain ⟨tp, p, hv⟩ := hT.er
    refine (Tryd.strconv_Atoi_range_var s hs h tp p w hv).mono ?_
    rintro _ w' ⟨N, rfl, _, _, hb⟩
    exact ⟨Or.inr ⟨fun v e => (by rw [h] at e; cases e), _, _, _, rfl⟩, hb⟩
  | _ =>
    obtain ⟨tp, p, hv⟩ := hT.es
    refine (Tryd.strconv_Atoi_bad_var s hs (fun v e => (by rw [h] at e; cases e)) (fun e => (by rw [h] at e; cases e)) tp p w hv).mono ?_
    rintro _ w' ⟨N, rfl, _, _, hb⟩
    exact ⟨Or.inr ⟨fun v e => (by rw [h] at e; cases e), _, _, _, rfl⟩, hb⟩
theorem split_parts (L : List UInt8) : Lib.splitB ⟨#[32]⟩ 0 (Lib.countB (bstr L) ⟨#[32]⟩) (bstr L) = (cutL L).map bstr := by
  have hc : Lib.countB (bstr L) ⟨#[32]⟩ = L.count 32 := by
    show Lib.count (bstr L).data.toList [32] = _
    rw [Lib.count_one]
    simp [bstr]
  have h := Lib.splitB_data ⟨#[32]⟩ 0 (Lib.countB (bstr L) ⟨#[32]⟩) (bstr L)
  rw [hc] at h ⊢
  have h2 : Lib.splitK [32] 0 (L.count 32) L = cutL L := split_cut L
  have h3 : (bstr L).data.toList = L := by simp [bstr]
  rw [h3] at h
  rw [show (ByteArray.mk #[32]).data.toList = [32] from rfl, h2] at h
  rw [← h, List.map_map]
  have : (bstr ∘ fun x : ByteArray => x.data.toList) = id := by
    funext x
    simp [bstr]
  rw [this, List.map_id]
theorem split_len (L : List UInt8) : Lib.countB (bstr L) ⟨#[32]⟩ + 1 = (cutL L).length := by
  have hc : Lib.countB (bstr L) ⟨#[32]⟩ = L.count 32 := by
    show Lib.count (bstr L).data.toList [32] = _
    rw [Lib.count_one]
    simp [bstr]
  rw [hc, cut_len]
theorem split_any (L : List UInt8) (w : World) (hL : L.length ≤ 1048576) (hT : TabR w) :
    Calls Tryd.prog 22 #[.string (bstr L), .string ⟨#[32]⟩] w fun e w' => e = .returned (.slice (some ⟨w.heap.size, 0, none⟩) (cutL L).length (cutL L).length) ∧ w' = w.alloc (.cells ((cutL L).map fun x => Value.string (bstr x)).toArray 9) := by
  obtain ⟨_, m, hm⟩ := hT.ml
  refine (Tryd.strings_Split (bstr L) ⟨#[32]⟩ m w (by rw [bstr_size]; omega) hm (by decide)).mono ?_
  rintro _ _ ⟨rfl, rfl⟩
  rw [split_parts, split_len, List.map_map]
  exact ⟨rfl, rfl⟩
end Go.Proofs.YtcmkcgegdclllaaDoor
