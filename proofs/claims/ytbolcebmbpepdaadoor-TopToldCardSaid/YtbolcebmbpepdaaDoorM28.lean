/- Contracts and plain facts, set together by program out of smaller texts. Conditions: none beyond what each theorem states. -/
import Derived.Test.YtbolcebmbpepdaaDoorM27
namespace Go.Proofs.YtbolcebmbpepdaaDoor
set_option linter.unusedVariables false
section
open Go.RowKit
theorem shut_none {s : Shf} {id : Int} {b : Bool} (h : ¬ (id < 1 ∨ s.made < id)) (hf : ∀ x ∈ s.opn, (x.id == id) = false) : shutS s id b = (s, 10) := by
  unfold shutS
  rw [if_neg h]
  have : s.opn.find? (fun h => h.id == id) = none := List.find?_eq_none.2 fun x hx => by rw [hf x hx]; simp
  rw [this]
theorem shut_at {s : Shf} {K id : Int} {b : Bool} (hk : s.ok K) (h : ¬ (id < 1 ∨ s.made < id)) {i : Nat} {x : Hd} (hx : s.opn[i]? = some x) (hid : (x.id == id) = true) (hf : ∀ y ∈ s.opn.take i, (y.id == id) = false) :
    shutS s id b = (⟨if b then s.free else s.free + x.count, if b then s.used + x.count else s.used, s.made, s.opn.take i ++ s.opn.drop (i + 1)⟩, 0) := by
  have hl : s.opn = s.opn.take i ++ x :: s.opn.drop (i + 1) := by rw [← drop_cons s.opn i x hx, List.take_append_drop]
  have hfi : s.opn.find? (fun h => h.id == id) = some x := by
    rw [hl, List.find?_append, List.find?_eq_none.2 fun y hy => by rw [hf y hy]; simp]
    simp [hid]
  have hids := hk.ids
  have hfl : (s.opn.filter fun h => !(h.id == id)) = s.opn.take i ++ s.opn.drop (i + 1) := by
    have h2 : ∀ y ∈ s.opn.drop (i + 1), (y.id == id) = false := fun y hy => by
      rw [hl, List.map_append, List.pairwise_append, List.map_cons, List.pairwise_cons] at hids
      have := hids.2.1.1 y.id (List.mem_map.2 ⟨y, hy, rfl⟩)
      have e : x.id = id := by simpa using hid
      simp; omega
    conv => lhs; rw [hl]
    rw [List.filter_append, List.filter_cons, hid, List.filter_eq_self.2 fun y hy => by rw [hf y hy]; rfl, List.filter_eq_self.2 fun y hy => by rw [h2 y hy]; rfl]
    simp
  unfold shutS
  rw [if_neg h, hfi, hfl]
def ClPost (base g o : Nat) (cs : Array Value) (v : Value) (w : World) (r : Shf × Int) (e : Ending) (w' : World) : Prop :=
  ∃ v', e = .returned (.int .i64 r.2) ∧ ShAt w' base g o (putAt cs o (r.1.cells v')) r.1 v' ∧ Only (fun k => k = g ∨ v.ownBlock = some k) w w' ∧ (∀ k, v'.ownBlock = some k → v.ownBlock = some k ∨ w.heap.size ≤ k)
theorem clPost_same {base g o : Nat} {cs : Array Value} {s : Shf} {v : Value} {w w' : World} {a : Int} (h : ShAt w' base g o cs s v) (hb : Below w.heap.size w w') : ClPost base g o cs v w (s, a) (.returned (.int .i64 a)) w' :=
  ⟨v, rfl, by rw [putAt_self cs o _ h.has]; exact h, Only.of_below hb fun x hx hB => by omega, fun k hk => .inl hk⟩
theorem closeClo_any (x : Hd) (q : Nat) (id : Int) (w : World) (hq : w.cell? ⟨q, 0, none⟩ = some (.int .i64 id)) :
    Calls Tryd.prog 89 #[.agg #[.int .i64 x.id, .int .i64 x.count, .int .i64 x.life], .pointer (some ⟨q, 0, none⟩)] w fun e w' => e = .returned (.bool (x.id == id)) ∧ Below w.heap.size w w' := by
  obtain ⟨a, b, c⟩ := x
  have hlt : q < w.heap.size := by
    refine Nat.not_le.1 fun hc => ?_
    have : w.heap[q]? = none := Array.getElem?_eq_none hc
    unfold World.cell? at hq
    simp [this] at hq
  have hq2 := (World.cell?_alloc_lt w (.cells #[.int .i64 a, .int .i64 b, .int .i64 c] 149) ⟨q, 0, none⟩ hlt).trans hq
  clear hq
  go_enter Tryd.func89, Tryd.ntmps89
  go_wp2_with fail
  go_ret
  exact ⟨rfl, (Below.refl _ _).alloc (Nat.le_refl _) _⟩
theorem closeClo_enters (args : Array Value) (W : World) : (callFunc 89 args).run Tryd.prog W = .ok (.enter 89 args) W :=
  callFunc_enters Tryd.func89 (by kernel_rfl) rfl args W
/-- 'to': the field that gains, 0: free, 1: used -/
def gainAt (b : Bool) (o : Nat) : Nat := if b then o + 1 else o
theorem ShAt.gain_ {w : World} {base g o : Nat} {cs : Array Value} {s : Shf} {v : Value} (h : ShAt w base g o cs s v) (b : Bool) (x : Int) : ShAt (w.setCell ⟨g, gainAt b o, none⟩ (.int .i64 x)) base g o (putAt cs o ((⟨if b then s.free else x, if b then x else s.used, s.made, s.opn⟩ : Shf).cells v)) ⟨if b then s.free else x, if b then x else s.used, s.made, s.opn⟩ v := by
  cases b
  · exact h.free_ x
  · exact h.used_ x
theorem ShAt.cg {w : World} {base g o : Nat} {cs : Array Value} {s : Shf} {v : Value} (h : ShAt w base g o cs s v) (b : Bool) : w.cell? ⟨g, gainAt b o, none⟩ = some (.int .i64 (if b then s.used else s.free)) := by
  cases b
  · exact h.c0
  · exact h.c1
set_option maxRecDepth 100000 in
set_option maxHeartbeats 1000000 in
theorem shelfClose_any (base g o : Nat) (cs : Array Value) (s : Shf) (v : Value) (w : World) (id : Int) (b : Bool) (K : Int) (h : ShAt w base g o cs s v) (hs : s.ok K) (hK : K ≤ 1000000) (hB : base ≤ w.heap.size) :
    Calls Tryd.prog 69 #[.pointer (some ⟨g, o, none⟩), .int .i64 id, .pointer (some ⟨g, gainAt b o, none⟩)] w (ClPost base g o cs v w (shutS s id b)) := by
  obtain ⟨wx, hwx⟩ : ∃ wx, wx = w.alloc (.cells #[.int .i64 id] 3) := ⟨_, rfl⟩
  have hbx : Below w.heap.size w wx := by rw [hwx]; exact (Below.refl _ _).alloc (Nat.le_refl _) _
  have k0 : Blk wx w.heap.size 3 #[.int .i64 id] := by rw [hwx]; exact Blk.new w 3 _
  have hx := h.calm hbx
  have q0 := k0.cell 0
  have c2 := hx.c2
  have c3 := hx.c3
  have q0a := q0
  have c2a := c2
  have c3a := c3
  rw [hwx] at q0a c2a c3a
  have hm0 := hs.made0
  have hmK := hs.madeK
  have hll := hs.len
  have HX := hide hx
  have HBX := hide hbx
  have HWX := hide hwx
  have HS := hide hs
  obtain ⟨A, c, rfl, hnc⟩ := own_slice h.own
  have HK0 := hide k0
  have hne : g ≠ w.heap.size := by have := h.blk.lt; omega
  have HNE := hide hne
  have hs0 := hs
  clear hx h hbx hs k0 hwx hne
  obtain ⟨m, hm⟩ : ∃ m, m = s.opn.length := ⟨_, rfl⟩
  have HM := hide hm
  rw [← hm] at c3 c3a hll hnc
  clear hm
  by_cases h1 : id < 1
  · have HF := hide (show shutS s id b = (s, 6) by unfold shutS; rw [if_pos (.inl h1)])
    have hd1 : decide (id < 1) = true := decide_eq_true h1
    go_enter Tryd.func69, Tryd.ntmps69
    go_wp2_with fail
    rw [← unhide HWX]
    go_quiet (fail)
    go_wp2_with fail
    go_ret
    rw [unhide HF]
    exact clPost_same ((unhide HX).calm (below_drewN (Below.refl _ _) nq)) (below_drewN (unhide HBX) nq)
  have hd1 : decide (id < 1) = false := decide_eq_false h1
  have h1' : 1 ≤ id := by omega
  by_cases h2 : s.made < id
  · have HF := hide (show shutS s id b = (s, 6) by unfold shutS; rw [if_pos (.inr h2)])
    clear h1
    go_enter Tryd.func69, Tryd.ntmps69
    go_wp2_with fail
    rw [← unhide HWX]
    go_quiet (fail)
    go_wp2_with fail
    go_ret
    rw [unhide HF]
    exact clPost_same ((unhide HX).calm (below_drewN (Below.refl _ _) nq)) (below_drewN (unhide HBX) nq)
  have hnr : ¬ (id < 1 ∨ s.made < id) := by omega
  have h2' : id ≤ s.made := by omega
  have HIX := hide (fun W (hW : Below wx.heap.size wx W) => hdIndexC_any 89 (.pointer (some ⟨w.heap.size, 0, none⟩)) (fun h => h.id == id) A m c s.opn W.heap.size W (unhide HM).symm (by omega) (by have := Reads.of_own ((unhide HX).calm hW).own; rwa [← unhide HM] at this) (Nat.le_refl _) closeClo_enters
    (fun e W2 hW2 => closeClo_any e w.heap.size id W2 (((unhide HK0).below (hW.trans (hW2.mono hW.size)) (unhide HK0).lt).cell 0)))
  rcases idxD_spec (fun h : Hd => h.id == id) s.opn 0 with ⟨e1, e2⟩ | ⟨i, x, e0, e1, e2, e3, e4⟩
  · have HF := hide (show shutS s id b = (s, 10) from shut_none hnr e2)
    rw [e1] at HIX
    clear h1 h2 e2 hnr e1
    go_enter Tryd.func69, Tryd.ntmps69
    go_wp2_with fail
    rw [← unhide HWX]
    go_quiet (fail)
    go_wp2_with fail
    refine (unhide HIX _ (below_drewN (Below.refl _ _) nq)).mono ?_
    rintro _ w3 ⟨rfl, hb3⟩
    have HB3 := hide (show Below wx.heap.size wx w3 from (below_drewN (Below.refl _ _) nq).trans hb3)
    clear hb3
    go_wp2_with fail
    go_ret
    rw [unhide HF]
    exact clPost_same ((unhide HX).calm (unhide HB3)) ((unhide HBX).trans ((unhide HB3).mono (unhide HBX).size))
  · have HF := hide (shut_at (b := b) hs0 hnr e3 e4 e2)
    rw [e1, Nat.zero_add] at HIX
    rw [← unhide HM] at e0
    have hx0 := (unhide HS).each x (List.mem_of_getElem? e3)
    obtain ⟨_, _, hx1, hx2, _, _⟩ := hx0
    have htv : 0 ≤ (if b then s.used else s.free) ∧ (if b then s.used else s.free) ≤ 1048576 := by
      have a1 := (unhide HS).all
      have a2 := (unhide HS).used0
      have a3 := (unhide HS).free0
      have a4 : 0 ≤ heldL s.opn := heldL_nonneg fun x hx => by have := (unhide HS).each x hx; omega
      split <;> omega
    obtain ⟨tv, htv0⟩ : ∃ tv, tv = (if b then s.used else s.free) := ⟨_, rfl⟩
    rw [← htv0] at htv
    obtain ⟨htv1, htv2⟩ := htv
    have HTV := hide htv0
    obtain ⟨gg, cap, hv, hbg, hglt⟩ := (unhide HX).own.form (by rw [← unhide HM]; omega)
    injection hv with hA hn hcc
    subst hA
    clear hn hcc htv0
    obtain ⟨m', rfl⟩ : ∃ m', m = m' + 1 := ⟨m - 1, by omega⟩
    have E3 := hide e3
    have HLN := hide (show (s.opn.take i ++ s.opn.drop (i + 1)).length = m' by simp; have := unhide HM; omega)
    have him : i ≤ m' := by omega
    have hi0 : (i : Int) < (m' : Int) + 1 := by omega
    have hi1 : ¬ ((i : Int) < 0) := by omega
    have hmc : (m' : Int) + 1 ≤ (c : Int) := by omega
    clear h1 h2 e2 hnr e1 e3 e4
    go_enter Tryd.func69, Tryd.ntmps69
    go_wp2_with fail
    rw [← unhide HWX]
    go_quiet (fail)
    go_wp2_with fail
    refine (unhide HIX _ (below_drewN (Below.refl _ _) nq)).mono ?_
    rintro _ w3 ⟨rfl, hb3⟩
    have HB3 := hide (show Below wx.heap.size wx w3 from (below_drewN (Below.refl _ _) nq).trans hb3)
    have hx3 := (unhide HX).calm (unhide HB3)
    have HX3 := hide hx3
    have d3 := hx3.c3
    rw [← unhide HM] at d3
    have dg := hx3.cg b
    rw [← unhide HTV] at dg
    have de := own_cells hx3.own (i * 3 + 1) (by rw [flatMap_get Hd.cells 3 Hd.cells_len _ i 1 (by omega), unhide E3]; rfl)
    have df := hx3.fr (gainAt b o)
    have hg3 : ¬ gainAt b o = o + 3 := by unfold gainAt; split <;> omega
    have hg3' : ¬ o + 3 = gainAt b o := by omega
    clear hb3 c2 c3 q0 q0a c2a c3a hx3
    go_wp2_with fail
    refine wp_region_draw_tail 13 (by kernel_rfl) (by kernel_rfl) ?_
    simp only [List.take_succ_cons, List.take_zero, List.drop_succ_cons, List.drop_zero]
    repeat (go_big_quiet_step (fail))
    refine wpQuiet_nil ?_
    rintro _ ⟨nq2, rfl⟩
    go_wp2_with fail
    have hx4 := ((unhide HX3).calm (below_drewN (Below.refl _ _) nq2)).gain_ b (tv + x.count)
    obtain ⟨w4, hw4⟩ : ∃ w4, w4 = (w3.drewN nq2).setCell ⟨g, gainAt b o, none⟩ (.int .i64 (tv + x.count)) := ⟨_, rfl⟩
    rw [← hw4] at hx4 ⊢
    have hO4 : Only (fun k => k = g) w3 w4 := by rw [hw4]; exact Only.setCell (D := fun k => k = g) ((Only.refl _ w3).drewN nq2) (p := ⟨g, gainAt b o, none⟩) (fun _ => rfl) _
    have HX4 := hide hx4
    have HO4 := hide hO4
    have hdel := hdDelete_any base (some ⟨gg, 0, none⟩) m' c i s.opn w4 him (by omega) (by have := hx4.own; rwa [← unhide HM] at this) (unhide HM).symm
    have HDEL := hide hdel
    clear hx4 hO4 hdel hw4 d3 dg de df
    refine (unhide HDEL).mono ?_
    rintro _ w5 ⟨v5, rfl, hown5, hO5, hat5⟩
    obtain ⟨A5, c5, hv5, _⟩ := own_slice hown5
    rw [unhide HLN] at hv5
    subst hv5
    have hM5 := (unhide HX4).blk.only hO5 (by have := (unhide HX4).ne; rw [← unhide HM] at this; exact this)
    have hfin := ShAt.open_ (unhide HX4) hM5 hown5
    rw [putAt_put _ _ _ _ (by simp [Shf.cells])] at hfin
    have u3 := hM5.at_ (unhide HX4).has 3 rfl
    have f3 := hM5.frozen (o + 3)
    have HFIN := hide hfin
    have HO5 := hide hO5
    have HAT5 := hide hat5
    clear hown5 hO5 hat5 hM5 hfin
    go_wp2_with fail
    go_ret
    rw [unhide HF]
    have hfin := unhide HFIN
    rw [unhide HTV] at hfin
    refine ⟨.slice A5 m' c5, rfl, ?_, ?_, fun k hk => .inl ?_⟩
    · cases b
      · exact hfin
      · exact hfin
    · have h1 : Only (fun k => k = g ∨ Value.ownBlock (.slice (some ⟨gg, 0, none⟩) s.opn.length c) = some k) w wx := Only.of_below (unhide HBX) fun x hx hB => by omega
      exact Only.setCell ((((h1.calm (unhide HB3)).trans (unhide HO4) (fun x _ h => .inl h)).trans (unhide HO5) (fun x _ h => .inr h))) (fun _ => .inl rfl) _
    · exact unhide HAT5 k hk
end
end Go.Proofs.YtbolcebmbpepdaaDoor
