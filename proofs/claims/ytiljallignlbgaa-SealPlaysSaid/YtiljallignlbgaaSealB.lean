/- seal.Office: Post. Conditions: none beyond what each theorem states. -/
import Derived.Test.YtiljallignlbgaaSealA
import Derived.Test.YtiljallignlbgaaCloneB
import Derived.Test.YtiljallignlbgaaRegion
namespace Go.Proofs.Ytiljallignlbgaa
open Go.RowKit
set_option linter.unusedVariables false

theorem info_letter : (Try.prog.info? 101).map (fun i => (i.zero, i.size, i.bytes)) = some (some (.agg #[.int .i64 0, .int .i64 0, .slice none 0 0]), 3, 40) := by kernel_rfl
theorem letter_info : ∃ i, Try.prog.info? 101 = some i ∧ i.zero = some (.agg #[.int .i64 0, .int .i64 0, .slice none 0 0]) ∧ i.size = 3 ∧ i.bytes = 40 := by
  have h := info_letter
  cases hi : Try.prog.info? 101 with
  | none => rw [hi] at h; simp at h
  | some i => rw [hi] at h; simp at h; exact ⟨i, rfl, h.1, h.2.1, h.2.2⟩
theorem ints_one2 (k : IntKind) (l : List Int) : ∀ u ∈ l.map (Value.int k), u.oneCell' = true := by
  intro u hu
  obtain ⟨z, _, rfl⟩ := List.mem_map.1 hu
  rfl
section
variable {w w1 w' : World} {base g b m : Nat} {v v' : Value} {l : List Po} {p : Po} {top : Int → Int → Int}
theorem OfAt.ne_g (h : OfAt w base g b v l m top) : v.ownBlock ≠ some g := own_blk_ne h.own h.blk (by decide)
theorem OfAt.grows (h : OfAt w base g b v l m top) (hp : PoOwn p w base) (hw : (Lit.int .i64 p.d.fr).wf = true ∧ (Lit.int .i64 p.d.to_).wf = true) (hg : w.grownBy w1 v.ownBlock)
    (hown : w1.ownsRow base 101 3 v' (l.length + 1) (l.flatMap Po.cells ++ p.cells)) : OfAt (w1.setCell ⟨g, 0, none⟩ v') base g b v' (l ++ [p]) m top := by
  have ho1 : Only (fun k => v.ownBlock = some k) w w1 := (Only.refl _ _).grown hg fun k hk _ => hk
  have ho2 : Only (fun k => k = g) w1 (w1.setCell ⟨g, 0, none⟩ v') := only_put (Only.refl _ _) _ _
  have hk1 : Blk w1 g 81 #[v, .map (some b)] := h.blk.only ho1 h.ne_g
  have hrow : ∀ x, PoOwn x w base → PoOwn x (w1.setCell ⟨g, 0, none⟩ v') base := fun x hx => by
    have h1 : PoOwn x w1 base := World.ownsRow.kept hx hg (own_own_ne hx h.own (by decide))
    exact own_only h1 ho2 fun k hk e => own_blk_ne h1 hk1 (by decide) (by rw [hk, e])
  refine ⟨hk1.set_ 0 v', ?_, fun x hx => ?_, (h.map.only ho1 (own_map_ne h.own h.map)).only ho2 (fun e => blk_map_ne h.blk h.map e.symm), fun x hx => ?_⟩
  · rw [List.length_append, List.flatMap_append]
    refine own_only (v := v') (by simpa using hown) ho2 fun k hk e => own_blk_ne hown hk1 (by decide) (by rw [hk, e])
  · rcases List.mem_append.1 hx with h1 | h1
    · exact hrow x (h.rows x h1)
    · rw [List.mem_singleton] at h1
      subst h1
      exact hrow x hp
  · rcases List.mem_append.1 hx with h1 | h1
    · exact h.wf x h1
    · rw [List.mem_singleton] at h1
      subst h1
      exact hw
end
def PoPost (base g b m : Nat) (v : Value) (w : World) (l : List Po) (top : Int → Int → Int) (d : PoD) (e : Ending) (w' : World) : Prop :=
  ∃ v' p, e = .returned (.int .i64 l.length) ∧ p.d = d ∧ OfAt w' base g b v' (l ++ [p]) m top ∧ Only (fun k => k = g ∨ v.ownBlock = some k) w w' ∧
    (∀ k, v'.ownBlock = some k → v.ownBlock = some k ∨ w.heap.size ≤ k) ∧ (∀ k, (Value.slice p.A p.n p.c).ownBlock = some k → w.heap.size ≤ k)

set_option maxHeartbeats 1000000 in
theorem officePost_any (base g b m : Nat) (v : Value) (l : List Po) (top : Int → Int → Int) (w : World) (fr to_ : Int) (A : Option Addr) (n c : Nat) (data : List Int) (B : Nat) (h : OfAt w base g b v l m top) (hlm : l.length ≤ 1000000) (hdl : data.length = n) (hn : n ≤ 1000000)
    (hr : Reads w B 1 A n (data.map (.int .u8))) (hB : B ≤ w.heap.size) (hb0 : base ≤ w.heap.size) (hf : (Lit.int .i64 fr).wf = true) (ht : (Lit.int .i64 to_).wf = true) :
    Calls Try.prog 28 #[.pointer (some ⟨g, 0, none⟩), .int .i64 fr, .int .i64 to_, .slice A n c] w (PoPost base g b m v w l top ⟨fr, to_, data⟩) := by
  have HC := hide (fun W (hW : Below w.heap.size w W) => cloneB_any A n c _ B W (ints_one2 .u8 data) (by omega) (hr.below (hW.mono hB)) (Nat.le_trans hB hW.size))
  have HX := hide h
  obtain ⟨Al, cl, rfl, _⟩ := own_slice h.own
  have c0 := h.c0
  have ce0 := fun n : Ext w => n.cell c0
  obtain ⟨i0, hi, hz0, hz1, hz2⟩ := letter_info
  obtain ⟨q, hq⟩ : ∃ q, q = l.length := ⟨_, rfl⟩
  have hlm2 : l.length ≤ 1000000 := hlm
  rw [← hq] at ce0 hlm
  have HQ := hide hq
  have hMb : (q + 1) * 40 ≤ 140737488355328 := by omega
  clear h hr c0 hq
  go_enter Try.func28, Try.ntmps28
  go_upto_region 1 with fail
  rw [← unhide HQ]
  refine wp_region_calm_full [0] [1, 2, 3, 4, 5, 6, 7] [] [8, 9, 10] 11 [12, 13, 14] (by kernel_rfl) (by kernel_rfl) (by intro c a d v w h; cases d <;> exact h) ?_
  simp only [pickOps, List.map_cons, List.map_nil, List.getD_cons_zero, List.getD_cons_succ]
  repeat (go_big_quiet_step (fail))
  refine wpQuiet_nil ?_
  repeat (go_big_quiet_step (fail))
  refine wpQuiet_nil (wpQuiet_nil ?_)
  rintro _ ⟨nq, rfl⟩
  simp only [wpAl]
  go_wp2_with fail
  refine (unhide HC _ nq.h).mono ?_
  rintro _ w2 ⟨v2, rfl, ho2, hb2⟩
  obtain ⟨A2, c2, rfl, _⟩ := own_slice ho2
  have hk2 : Below w.heap.size w w2 := nq.h.trans (hb2.mono nq.h.size)
  have hs2 := hk2.size
  go_wp2_with fail
  refine ⟨⟨⟨_, hk2⟩, rfl⟩, ?_⟩
  go_wp2_with fail
  refine ⟨⟨⟨_, hk2⟩, rfl⟩, ?_⟩
  go_wp2_with fail
  refine ⟨⟨⟨_, hk2.alloc hs2 _⟩, rfl⟩, ?_⟩
  have HX2 := hide ((unhide HX).calm hk2)
  have HO2 := hide ho2
  have HN := hide nq.h.size
  have HK2 := hide hk2
  clear ho2 hb2
  go_wp2_with (first
    | (at_builtin; (refine wpList_append_new _ rfl (.tmp 13) (.tmp 19) _ rfl base 101 i0 _ 3 40 Try.underlying79 hi hz0 hz1 hz2 rfl (by omega) (by omega) _ _ _ (unhide HX2).own (by rw [← unhide HQ]; rfl) _ 1 _ rfl rfl rfl (by simp [Value.oneCell']) (by rw [← unhide HQ]; exact hMb) (by omega) ?_); intro g4 cap4 w4 hg4 hown4 hbel4 hgr4 hat4; have hk4 := (unhide HX2).blk.grown hgr4 (Ne.symm (unhide HX2).ne_g); have u0 := hk4.cell 0; have fu := hk4.frozen 0; have HK4 := hide (And.intro hown4 (And.intro hgr4 hat4)); clear hg4 hown4 hbel4 hgr4 hat4 hk4))
  have hfin := hide ((unhide HX2).grows (p := ⟨⟨fr, to_, data⟩, A2, n, c2⟩) (own_mono (unhide HO2) (by have := unhide HN; omega)) ⟨hf, ht⟩ (unhide HK4).2.1 (unhide HK4).1)
  go_ret
  refine ⟨_, ⟨⟨fr, to_, data⟩, A2, n, c2⟩, by first | rfl | exact ret_int (by omega), rfl, unhide hfin, ?_, fun k hk => ?_, fun k hk => ?_⟩
  · have h1 : Only (fun k => k = g ∨ Value.ownBlock (.slice Al l.length cl) = some k) w w2 := Only.of_below (unhide HK2) fun x hx hB => by omega
    exact Only.setCell (h1.grown (unhide HK4).2.1 (fun x hx _ => .inr hx)) (fun _ => .inl rfl) _
  · have hk' : g4 = k := by simpa [Value.ownBlock] using hk
    rcases (unhide HK4).2.2 with h1 | h1
    · exact .inl (by rw [← hk', h1])
    · right; omega
  · have := ((unhide HO2).lt k hk).1
    have := unhide HN
    omega
end Go.Proofs.Ytiljallignlbgaa
