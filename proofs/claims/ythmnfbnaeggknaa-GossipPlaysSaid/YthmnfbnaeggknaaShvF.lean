/- The reference's NewShelves. Conditions: none beyond what each theorem states. -/
import Derived.Test.YthmnfbnaeggknaaShvA
import Derived.Test.YthmnfbnaeggknaaRegion
namespace Go.Proofs.Ythmnfbnaeggknaa
open Go.RowKit
set_option linter.unusedVariables false

def rowV (n : Nat) (g : Nat) : Value := .slice (some ⟨g, 0, none⟩) n n
def newS (n : Nat) : List Slot := List.replicate (n * 8) (Ent.zero, false)
theorem made_get (z : Array Value) (N i : Nat) (hz : 0 < z.size) (h : i < N) : (madeCells z N)[i]? = z[i % z.size]? := by
  unfold madeCells
  rw [Array.getElem?_map, Array.getElem?_range, if_pos h]
  have := Nat.mod_lt i hz
  simp [this]
theorem made_slots (n : Nat) (z : Array Value) (hs : z.size = 40) (hz : ∀ i : Nat, i < 40 → z[i]? = (entCells Ent.zero)[i % 5]?) : madeCells z (n * 40) = (slotE (newS n)).toArray := by
  apply array_ext
  intro i
  rcases Nat.lt_or_ge i (n * 40) with h | h
  · rw [made_get z _ i (by omega) h, hs, hz _ (Nat.mod_lt _ (by omega))]
    have e : i = i / 5 * 5 + i % 5 := by omega
    have h8 : (newS n)[i / 5]? = some (Ent.zero, false) := by unfold newS; rw [List.getElem?_replicate, if_pos (by omega)]
    have h5 : i % 5 < (entCells Ent.zero).length := Nat.mod_lt _ (by decide)
    have := slotE_get (newS n) (i / 5) _ h8 (i % 5) _ (List.getElem?_eq_getElem h5)
    rw [← e] at this
    simp only [List.getElem?_toArray]
    rw [this, show i % 40 % 5 = i % 5 by omega]
    exact List.getElem?_eq_getElem h5
  · rw [Array.getElem?_eq_none (by rw [size_madeCells]; exact h), Array.getElem?_eq_none]
    simp only [List.size_toArray]
    rw [slotE_len]
    unfold newS
    rw [List.length_replicate]
    omega
theorem made_bits (n : Nat) (z : Array Value) (hs : z.size = 8) (hz : ∀ i : Nat, i < 8 → z[i]? = some (.bool false)) : madeCells z (n * 8) = (slotB (newS n)).toArray := by
  apply array_ext
  intro i
  rcases Nat.lt_or_ge i (n * 8) with h | h
  · rw [made_get z _ i (by omega) h, hs, hz _ (Nat.mod_lt _ (by omega))]
    have h8 : (newS n)[i]? = some (Ent.zero, false) := by unfold newS; rw [List.getElem?_replicate, if_pos (by omega)]
    have := slotB_get (newS n) i _ h8
    simp only [List.getElem?_toArray]
    rw [this]
  · rw [Array.getElem?_eq_none (by rw [size_madeCells]; exact h), Array.getElem?_eq_none]
    simp only [List.size_toArray]
    unfold slotB newS
    rw [List.length_map, List.length_replicate]
    omega
/-- the shelves while they are made -/
structure ShvMade (w : World) (base sb n c : Nat) (A : Option Addr) (vH vI : Value) (X Y : List Nat) : Prop where
  blk : Blk w sb 79 #[.slice A n c, vH, vI]
  oh : w.ownsRow base 80 1 vH X.length (X.map (rowV n))
  oi : w.ownsRow base 81 1 vI Y.length (Y.map (rowV n))
  ex : ∀ x ∈ X, Blk w x 84 (slotE (newS n)).toArray ∧ base ≤ x
  ey : ∀ y ∈ Y, Blk w y 83 (slotB (newS n)).toArray ∧ base ≤ y
  ndx : X.Nodup
  ndy : Y.Nodup
  low : base ≤ sb
section
variable {w w' : World} {base sb n c : Nat} {A : Option Addr} {vH vI : Value} {X Y : List Nat}
theorem ShvMade.calm (h : ShvMade w base sb n c A vH vI X Y) (hb : Below w.heap.size w w') : ShvMade w' base sb n c A vH vI X Y :=
  ⟨h.blk.below hb h.blk.lt, own_below' h.oh hb, own_below' h.oi hb, fun x hx => ⟨(h.ex x hx).1.below hb (h.ex x hx).1.lt, (h.ex x hx).2⟩, fun x hx => ⟨(h.ey x hx).1.below hb (h.ey x hx).1.lt, (h.ey x hx).2⟩, h.ndx, h.ndy, h.low⟩
theorem nodup_snoc {X : List Nat} {x : Nat} (h : X.Nodup) (hx : x ∉ X) : (X ++ [x]).Nodup := by
  rw [List.nodup_append]
  exact ⟨h, by simp, fun a ha b hb e => by rw [List.mem_singleton] at hb; subst hb; subst e; exact hx ha⟩
theorem ShvMade.putX (h : ShvMade w base sb n c A vH vI X Y) {x : Nat} {v : Value} (hx : Blk w x 84 (slotE (newS n)).toArray) (hl : base ≤ x) (hn : x ∉ X) (hg : w.grownBy w' vH.ownBlock) (ho : w'.ownsRow base 80 1 v (X.length + 1) (X.map (rowV n) ++ [rowV n x])) :
    ShvMade (w'.setCell ⟨sb, 1, none⟩ v) base sb n c A v vI (X ++ [x]) Y := by
  have h1 : Only (fun k => vH.ownBlock = some k) w w' := (Only.refl _ _).grown hg (fun g hg _ => hg)
  have h2 : Only (fun k => k = sb) w' (w'.setCell ⟨sb, 1, none⟩ v) := only_put (Only.refl _ _) _ _
  have h3 : Only (fun k => vH.ownBlock = some k ∨ k = sb) w (w'.setCell ⟨sb, 1, none⟩ v) := (h1.mono fun _ _ h => Or.inl h).trans h2 fun _ _ h => Or.inr h
  have hb := (h.blk.only h1 (fun e => own_blk_ne h.oh h.blk (by decide) e))
  have hex : ∀ x, Blk w x 84 (slotE (newS n)).toArray → Blk (w'.setCell ⟨sb, 1, none⟩ v) x 84 (slotE (newS n)).toArray := fun x hx => hx.only h3 (by
    rintro (e | e)
    · exact own_blk_ne h.oh hx (by decide) e
    · exact hx.ne_ h.blk (by decide) e)
  refine ⟨hb.set_ 1 v, ?_, ?_, ?_, ?_, nodup_snoc h.ndx hn, h.ndy, h.low⟩
  · have := own_only ho h2 (fun g hg e => own_blk_ne ho hb (by decide) (by rw [hg, e]))
    simpa using this
  · exact own_only h.oi h3 (fun g hg => by
      rintro (e | e)
      · rcases own_own_ne h.oi h.oh (by decide) with e1 | e1
        · rw [e1] at hg; cases hg
        · exact e1 (by rw [hg, e])
      · exact own_blk_ne h.oi h.blk (by decide) (by rw [hg, e]))
  · intro z hz
    rcases List.mem_append.1 hz with hz | hz
    · exact ⟨hex z (h.ex z hz).1, (h.ex z hz).2⟩
    · rw [List.mem_singleton] at hz; subst hz; exact ⟨hex z hx, hl⟩
  · intro z hz
    refine ⟨(h.ey z hz).1.only h3 ?_, (h.ey z hz).2⟩
    rintro (e | e)
    · exact own_blk_ne h.oh (h.ey z hz).1 (by decide) e
    · exact (h.ey z hz).1.ne_ h.blk (by decide) e
theorem ShvMade.putY (h : ShvMade w base sb n c A vH vI X Y) {y : Nat} {v : Value} (hy : Blk w y 83 (slotB (newS n)).toArray) (hl : base ≤ y) (hn : y ∉ Y) (hg : w.grownBy w' vI.ownBlock) (ho : w'.ownsRow base 81 1 v (Y.length + 1) (Y.map (rowV n) ++ [rowV n y])) :
    ShvMade (w'.setCell ⟨sb, 2, none⟩ v) base sb n c A vH v X (Y ++ [y]) := by
  have h1 : Only (fun k => vI.ownBlock = some k) w w' := (Only.refl _ _).grown hg (fun g hg _ => hg)
  have h2 : Only (fun k => k = sb) w' (w'.setCell ⟨sb, 2, none⟩ v) := only_put (Only.refl _ _) _ _
  have h3 : Only (fun k => vI.ownBlock = some k ∨ k = sb) w (w'.setCell ⟨sb, 2, none⟩ v) := (h1.mono fun _ _ h => Or.inl h).trans h2 fun _ _ h => Or.inr h
  have hb := (h.blk.only h1 (fun e => own_blk_ne h.oi h.blk (by decide) e))
  have hey : ∀ x, Blk w x 83 (slotB (newS n)).toArray → Blk (w'.setCell ⟨sb, 2, none⟩ v) x 83 (slotB (newS n)).toArray := fun x hx => hx.only h3 (by
    rintro (e | e)
    · exact own_blk_ne h.oi hx (by decide) e
    · exact hx.ne_ h.blk (by decide) e)
  refine ⟨hb.set_ 2 v, ?_, ?_, ?_, ?_, h.ndx, nodup_snoc h.ndy hn, h.low⟩
  · exact own_only h.oh h3 (fun g hg => by
      rintro (e | e)
      · rcases own_own_ne h.oh h.oi (by decide) with e1 | e1
        · rw [e1] at hg; cases hg
        · exact e1 (by rw [hg, e])
      · exact own_blk_ne h.oh h.blk (by decide) (by rw [hg, e]))
  · have := own_only ho h2 (fun g hg e => own_blk_ne ho hb (by decide) (by rw [hg, e]))
    simpa using this
  · intro z hz
    refine ⟨(h.ex z hz).1.only h3 ?_, (h.ex z hz).2⟩
    rintro (e | e)
    · exact own_blk_ne h.oi (h.ex z hz).1 (by decide) e
    · exact (h.ex z hz).1.ne_ h.blk (by decide) e
  · intro z hz
    rcases List.mem_append.1 hz with hz | hz
    · exact ⟨hey z (h.ey z hz).1, (h.ey z hz).2⟩
    · rw [List.mem_singleton] at hz; subst hz; exact ⟨hey z hy, hl⟩
theorem own_cur1 {w : World} {base n : Nat} {e : TypeId} {v : Value} {xs : List Value} (h : w.ownsRow base e 1 v n xs) (hn : 0 < n) : ∃ g cap cs, v = .slice (some ⟨g, 0, none⟩) n cap ∧ base ≤ g ∧ n ≤ cap ∧ Blk w g e cs ∧ ∀ (j : Nat) (u : Value), xs[j]? = some u → cs[j]? = some u := by
  rcases h.2 with ⟨h1, h2⟩ | ⟨g, cap, cur, h1, hb, hh, hnc, hcm, hs, ht⟩
  · omega
  · refine ⟨g, cap, cur, h1, hb, hnc, hh, fun j u hj => ?_⟩
    rw [← ht, List.getElem?_take] at hj
    split at hj
    · simpa using hj
    · cases hj
theorem ShvMade.done (h : ShvMade w base sb n c A vH vI X Y) {m : Nat} (hx : X.length = m) (hy : Y.length = m) (hm0 : 0 < m) (hm : m ≤ 60) (hn : n ≤ 1000) : ∃ hb ib hc ic, ShvAt w base sb hb ib n c m hc ic A X Y (List.replicate m (newS n)) := by
  obtain ⟨hb, hc, cs, rfl, l1, l2, k1, k2⟩ := own_cur1 h.oh (by omega)
  obtain ⟨ib, ic, cs', rfl, l3, l4, k3, k4⟩ := own_cur1 h.oi (by omega)
  have hB := h.blk
  rw [hx, hy] at hB
  refine ⟨hb, ib, hc, ic, hn, hm, hx, hy, by simp, ⟨by omega, by omega⟩, hB, ⟨cs, k1, fun j g hj => k2 j _ (by simp [hj, rowV])⟩, ⟨cs', k3, fun j g hj => k4 j _ (by simp [hj, rowV])⟩, fun j x y q hxj hyj hq => ?_, h.ndx, h.ndy, h.low, l1, l3⟩
  obtain rfl := List.eq_of_mem_replicate (List.mem_of_getElem? hq)
  have a1 := h.ex x (List.mem_of_getElem? hxj)
  have a2 := h.ey y (List.mem_of_getElem? hyj)
  exact ⟨a1.1, a2.1, by simp [newS], a1.2, a2.2⟩
end
theorem info_of {t : TypeId} {z : Value} {s b : Nat} (h : (Try.prog.info? t).map (fun i => (i.zero, i.size, i.bytes)) = some (some z, s, b)) : ∃ i, Try.prog.info? t = some i ∧ i.zero = some z ∧ i.size = s ∧ i.bytes = b := by
  cases hi : Try.prog.info? t with
  | none => rw [hi] at h; simp at h
  | some i => rw [hi] at h; simp at h; exact ⟨i, rfl, h.1, h.2.1, h.2.2⟩
theorem info_of_cells {t : TypeId} {cs : List Value} {s b : Nat} (h : (Try.prog.info? t).map (fun i => (i.zero.map fun z => z.cells.toList, i.size, i.bytes)) = some (some cs, s, b)) : ∃ i, Try.prog.info? t = some i ∧ ∃ z, i.zero = some z ∧ z.cells.toList = cs ∧ i.size = s ∧ i.bytes = b := by
  cases hi : Try.prog.info? t with
  | none => rw [hi] at h; simp at h
  | some i =>
    rw [hi] at h
    simp only [Option.map_some, Option.some.injEq, Prod.mk.injEq] at h
    obtain ⟨h1, h2, h3⟩ := h
    cases hz : i.zero with
    | none => rw [hz] at h1; cases h1
    | some z => rw [hz] at h1; simp at h1; exact ⟨i, rfl, z, hz, h1, h2, h3⟩
theorem e84_info : ∃ i, Try.prog.info? 84 = some i ∧ ∃ z, i.zero = some z ∧ z.cells.toList = (List.replicate 8 (entCells Ent.zero)).flatten ∧ i.size = 40 ∧ i.bytes = 320 := info_of_cells (by kernel_rfl)
theorem b8_info : ∃ i, Try.prog.info? 83 = some i ∧ ∃ z, i.zero = some z ∧ z.cells.toList = List.replicate 8 (Value.bool false) ∧ i.size = 8 ∧ i.bytes = 8 := info_of_cells (by kernel_rfl)
theorem se8_info : ∃ i, Try.prog.info? 80 = some i ∧ i.zero = some (.slice none 0 0) ∧ i.size = 1 ∧ i.bytes = 24 := info_of (by kernel_rfl)
theorem sb8_info : ∃ i, Try.prog.info? 81 = some i ∧ i.zero = some (.slice none 0 0) ∧ i.size = 1 ∧ i.bytes = 24 := info_of (by kernel_rfl)
set_option maxRecDepth 100000 in
set_option maxHeartbeats 2000000 in
theorem newShelves_any (A : Option Addr) (n c m : Nat) (w : World) (hn : n ≤ 1000) (hm : m ≤ 60) (hm0 : 1 ≤ m) :
    Calls Try.prog 35 #[.int .i64 m, .slice A n c] w fun e w' => ∃ sb hb ib hc ic X Y, e = .returned (.pointer (some ⟨sb, 0, none⟩)) ∧ ShvAt w' w.heap.size sb hb ib n c m hc ic A X Y (List.replicate m (newS n)) ∧ Below w.heap.size w w' := by
  obtain ⟨i1, hi1, z1, hz1, hc1, hs1, hy1⟩ := e84_info
  obtain ⟨i2, hi2, z2, hz2, hc2, hs2, hy2⟩ := b8_info
  obtain ⟨i3, hi3, hz3, hs3, hy3⟩ := se8_info
  obtain ⟨i4, hi4, hz4, hs4, hy4⟩ := sb8_info
  have hmkE := fun W => run_make_rowN (P := Try.prog) 80 84 i1 _ Try.underlying80 hi1 hz1 .i64 .i64 n n (Nat.le_refl _) (by rw [hy1]; omega) (by omega) W
  have hmkB := fun W => run_make_rowN (P := Try.prog) 81 83 i2 _ Try.underlying81 hi2 hz2 .i64 .i64 n n (Nat.le_refl _) (by rw [hy2]; omega) (by omega) W
  rw [hs1, made_slots n z1.cells (by have := congrArg List.length hc1; simp at this; rw [this]; rfl) (fun k hk => by
    have e : z1.cells[k]? = z1.cells.toList[k]? := by simp
    rw [e, hc1]
    have := flatten_get 5 (List.replicate 8 (entCells Ent.zero)) (fun cs h => by rw [List.eq_of_mem_replicate h]; rfl) (k / 5) (k % 5) (Nat.mod_lt _ (by omega))
    rw [show k / 5 * 5 + k % 5 = k by omega] at this
    rw [this, List.getElem?_replicate, if_pos (by omega)]
    rfl)] at hmkE
  rw [hs2, made_bits n z2.cells (by have := congrArg List.length hc2; simpa using this) (fun k hk => by
    have e : z2.cells[k]? = z2.cells.toList[k]? := by simp
    rw [e, hc2, List.getElem?_replicate, if_pos hk])] at hmkB
  have HMKE := hide hmkE
  have HMKB := hide hmkB
  have HWS := hide (show (1:Nat) ≤ m from hm0)
  obtain ⟨sz, hsz⟩ : ∃ sz, sz = w.heap.size := ⟨_, rfl⟩
  clear hmkE hmkB hz1 hc1 hs1 hy1 hi1 hi2 hz2 hc2 hs2 hy2 hm0
  have HSZ := hide hsz
  clear hsz
  go_enter Try.func35, Try.ntmps35
  go_upto_block 0 with fail
  obtain ⟨sb, hsb⟩ : ∃ sb, sb = w.heap.size := ⟨_, rfl⟩
  obtain ⟨w1, hw1⟩ : ∃ w1, w1 = w.alloc (.cells #[.slice A n c, .slice none 0 0, .slice none 0 0] 79) := ⟨_, rfl⟩
  have hb1 : Below w.heap.size w w1 := by rw [hw1]; exact (Below.refl _ _).alloc (Nat.le_refl _) _
  have k1 : Blk w1 sb 79 #[.slice A n c, .slice none 0 0, .slice none 0 0] := by rw [hw1, hsb]; exact Blk.new w 79 _
  have HM0 : Hid (ShvMade w1 w.heap.size sb n c A (.slice none 0 0) (.slice none 0 0) [] []) := ⟨k1, World.ownsRow_nil _ _ _ _, World.ownsRow_nil _ _ _ _, fun x h => by simp at h, fun x h => by simp at h, List.nodup_nil, List.nodup_nil, by rw [hsb]; exact Nat.le_refl _⟩
  have hz0 : Below w.heap.size w w1 := hb1
  have HSB := hide hsb
  rw [← hw1, ← hsb]
  have HW1 := hide hw1
  clear hb1 k1 hsb hw1
  go_wp2_with fail
  go_loopw [6] (fun j wr => ∃ (i : Nat) (vH vI : Value) (X Y : List Nat), i ≤ m ∧ j = .int .i64 i ∧ Hid (X.length = i ∧ Y.length = i) ∧ Hid (ShvMade wr w.heap.size sb n c A vH vI X Y) ∧ Below w.heap.size w wr) (fun j _ => m - (intOf j).toNat)
  case atStart => exact ⟨0, _, _, [], [], Nat.zero_le _, rfl, hide ⟨rfl, rfl⟩, HM0, hz0⟩
  case round =>
    obtain ⟨i, vH, vI, X, Y, hi, rfl, HL, HM, hz⟩ := hrel
    by_cases hlt : i < m
    · have c1 : wr.cell? ⟨sb, 1, none⟩ = some vH := (unhide HM).blk.cell 1
      have hlt' : (i : Int) < (m : Int) := by omega
      go_upto_region 5 with fail
      have ce1 := fun n : Ext wr => n.cell c1
      refine wp_region_calm_full [0] [1, 2, 3, 4, 5, 6] [] [7, 8] 9 [10, 11, 12] (by kernel_rfl) (by kernel_rfl) (by intro c a d v w h; cases d <;> exact h) ?_
      simp only [pickOps, List.map_cons, List.map_nil, List.getD_cons_zero, List.getD_cons_succ]
      repeat (go_big_quiet_step (fail))
      refine wpQuiet_nil ?_
      repeat (go_big_quiet_step (fail))
      refine wpQuiet_nil (wpQuiet_nil ?_)
      rintro W ⟨nq, hW⟩
      have hWB : Below wr.heap.size wr W := hW ▸ nq.h
      clear hW
      simp only [wpAl]
      clear ce1
      have HMW := hide (unhide HM)
      have hk1 := unhide HMKE W
      go_wp2_with fail
      refine ⟨⟨⟨_, hWB.alloc hWB.size _⟩, rfl⟩, ?_⟩
      clear hk1
      go_wp2_with fail
      refine ⟨⟨⟨_, (hWB.alloc hWB.size _).alloc (by simp; exact Nat.le_succ_of_le hWB.size) _⟩, rfl⟩, ?_⟩
      obtain ⟨w2, hw2⟩ : ∃ w2, w2 = W.alloc (.cells (slotE (newS n)).toArray 84) := ⟨_, rfl⟩
      have hb2 : Below W.heap.size W w2 := by rw [hw2]; exact (Below.refl _ _).alloc (Nat.le_refl _) _
      have k2 : Blk w2 W.heap.size 84 (slotE (newS n)).toArray := by rw [hw2]; exact Blk.new W _ _
      obtain ⟨x, hx⟩ : ∃ x, x = W.heap.size := ⟨_, rfl⟩
      rw [← hx] at k2
      have hM2 := ((unhide HM).calm hWB).calm hb2
      have hxX : x ∉ X := fun hm => by have := ((unhide HM).calm hWB).ex x hm; have := this.1.lt; omega
      have hxl : w.heap.size ≤ x := by have := hz.size; have := hWB.size; omega
      have HZ2 := hide ((hz.trans (hWB.mono hz.size)).trans (hb2.mono (by have := hz.size; have := hWB.size; omega)))
      have hs2 := (unhide HZ2).size
      obtain ⟨AH, cH, rfl, _⟩ := own_slice hM2.oh
      have HM2 := hide hM2
      have HK2 := hide k2
      have HXX := hide hxX
      have HLX := hide hxl
      have hXl : (X.length + 1) * 24 ≤ 140737488355328 := by have := (unhide HL).1; omega
      have hfb := hM2.blk.frozen 1
      rw [← hw2, ← hx]
      have hsz2 : w2.heap.size = x + 1 := by rw [hw2, hx]; simp
      have HSZ2 := hide hsz2
      have HW2 := hide hw2
      have HX := hide hx
      clear hw2 hb2 k2 hx hM2 hxX hxl hsz2
      have HMH := hide (unhide HM2)
      go_wp2_with (first
        | (at_builtin; (refine wpList_append_new w2 rfl (.tmp 19) (.tmp 23) _ rfl w.heap.size 80 i3 _ 1 24 Try.underlying76 hi3 hz3 hs3 hy3 rfl (by omega) (by omega) _ _ _ (unhide HM2).oh rfl _ 1 _ rfl (unhide HSZ2) rfl (by simp [Value.oneCell']) hXl (Nat.le_succ_of_le (unhide HLX)) ?_); intro g4 cap4 w4 hg4 hown4 hbel4 hgr4 hat4; have HB4 := hide (hbel4 w.heap.size w (Nat.le_refl _) (unhide HZ2)); have HM4 := hide ((unhide HM2).putX (unhide HK2) (unhide HLX) (unhide HXX) hgr4 hown4); have u0 := ((unhide HM2).blk.only ((Only.refl _ _).grown hgr4 (D := fun k => Value.ownBlock (.slice AH X.length cH) = some k) (fun g hg _ => hg)) (fun e => own_blk_ne (unhide HM2).oh (unhide HM2).blk (by decide) e)).cell 1; have u1 := ((unhide HM2).blk.only ((Only.refl _ _).grown hgr4 (D := fun k => Value.ownBlock (.slice AH X.length cH) = some k) (fun g hg _ => hg)) (fun e => own_blk_ne (unhide HM2).oh (unhide HM2).blk (by decide) e)).frozen 1; clear hg4 hown4 hbel4 hgr4 hat4))
      have HB5 := hide ((unhide HB4).setCell (p := ⟨sb, 1, none⟩) (by have := (unhide HM).low; exact this) (.slice (some ⟨g4, 0, none⟩) (X.length + 1) cap4))
      generalize w4.setCell ⟨sb, 1, none⟩ (.slice (some ⟨g4, 0, none⟩) (X.length + 1) cap4) = w5 at *
      clear u0 u1
      have c2 : w5.cell? ⟨sb, 2, none⟩ = some vI := (unhide HM4).blk.cell 2
      have ce2 := fun n : Ext w5 => n.cell c2
      clear c1
      refine wp_region_calm_full [0] [1, 2, 3, 4, 5, 6] [] [7, 8] 9 [10, 11, 12] (by kernel_rfl) (by kernel_rfl) (by intro c a d v w h; cases d <;> exact h) ?_
      simp only [pickOps, List.map_cons, List.map_nil, List.getD_cons_zero, List.getD_cons_succ]
      repeat (go_big_quiet_step (fail))
      refine wpQuiet_nil ?_
      repeat (go_big_quiet_step (fail))
      refine wpQuiet_nil (wpQuiet_nil ?_)
      rintro W ⟨nq, hW⟩
      have hWB : Below w5.heap.size w5 W := hW ▸ nq.h
      clear hW
      simp only [wpAl]
      clear ce2 c2
      have hk1 := unhide HMKB W
      go_wp2_with fail
      refine ⟨⟨⟨_, hWB.alloc hWB.size _⟩, rfl⟩, ?_⟩
      clear hk1
      go_wp2_with fail
      refine ⟨⟨⟨_, (hWB.alloc hWB.size _).alloc (by simp; exact Nat.le_succ_of_le hWB.size) _⟩, rfl⟩, ?_⟩
      obtain ⟨w6, hw6⟩ : ∃ w6, w6 = W.alloc (.cells (slotB (newS n)).toArray 83) := ⟨_, rfl⟩
      have hb6 : Below W.heap.size W w6 := by rw [hw6]; exact (Below.refl _ _).alloc (Nat.le_refl _) _
      have k6 : Blk w6 W.heap.size 83 (slotB (newS n)).toArray := by rw [hw6]; exact Blk.new W _ _
      obtain ⟨y, hy⟩ : ∃ y, y = W.heap.size := ⟨_, rfl⟩
      rw [← hy] at k6
      have hM6 := ((unhide HM4).calm hWB).calm hb6
      have hyY : y ∉ Y := fun hm => by have := ((unhide HM4).calm hWB).ey y hm; have := this.1.lt; omega
      have hz5 := unhide HB5
      have hyl : w.heap.size ≤ y := by have := hz5.size; have := hWB.size; omega
      have HZ6 := hide ((hz5.trans (hWB.mono hz5.size)).trans (hb6.mono (by have := hz5.size; have := hWB.size; omega)))
      obtain ⟨AI, cI, rfl, _⟩ := own_slice hM6.oi
      have HM6 := hide hM6
      have HK6 := hide k6
      have HYY := hide hyY
      have HLY := hide hyl
      have hYl : (Y.length + 1) * 24 ≤ 140737488355328 := by have := (unhide HL).2; omega
      have hfb := hM6.blk.frozen 2
      rw [← hw6, ← hy]
      have hsz6 : w6.heap.size = y + 1 := by rw [hw6, hy]; simp
      have HSZ6 := hide hsz6
      clear hw6 hb6 k6 hy hM6 hyY hyl hsz6 hz5
      go_wp2_with (first
        | (at_builtin; (refine wpList_append_new w6 rfl (.tmp 31) (.tmp 35) _ rfl w.heap.size 81 i4 _ 1 24 Try.underlying77 hi4 hz4 hs4 hy4 rfl (by omega) (by omega) _ _ _ (unhide HM6).oi rfl _ 1 _ rfl (unhide HSZ6) rfl (by simp [Value.oneCell']) hYl (Nat.le_succ_of_le (unhide HLY)) ?_); intro g7 cap7 w7 hg7 hown7 hbel7 hgr7 hat7; have HB7 := hide (hbel7 w.heap.size w (Nat.le_refl _) (unhide HZ6)); have HM7 := hide ((unhide HM6).putY (unhide HK6) (unhide HLY) (unhide HYY) hgr7 hown7); have u0 := ((unhide HM6).blk.only ((Only.refl _ _).grown hgr7 (D := fun k => Value.ownBlock (.slice AI Y.length cI) = some k) (fun g hg _ => hg)) (fun e => own_blk_ne (unhide HM6).oi (unhide HM6).blk (by decide) e)).cell 2; have u1 := ((unhide HM6).blk.only ((Only.refl _ _).grown hgr7 (D := fun k => Value.ownBlock (.slice AI Y.length cI) = some k) (fun g hg _ => hg)) (fun e => own_blk_ne (unhide HM6).oi (unhide HM6).blk (by decide) e)).frozen 2; clear hg7 hown7 hbel7 hgr7 hat7))
      go_roundw
      case rel => exact ⟨i + 1, _, _, X ++ [x], Y ++ [y], by omega, by go_num, hide (by simp [(unhide HL).1, (unhide HL).2]), HM7, (unhide HB7).setCell (p := ⟨sb, 2, none⟩) (by have := (unhide HM).low; exact this) _⟩
      case measure => simp [intOf]; omega
    · obtain rfl : i = m := by omega
      go_wp2_with fail
      go_ret
      obtain ⟨hb, ib, hc, ic, hs⟩ := (unhide HM).done (unhide HL).1 (unhide HL).2 (unhide HWS) hm hn
      exact ⟨sb, hb, ib, hc, ic, X, Y, rfl, hs, hz⟩
end Go.Proofs.Ythmnfbnaeggknaa
