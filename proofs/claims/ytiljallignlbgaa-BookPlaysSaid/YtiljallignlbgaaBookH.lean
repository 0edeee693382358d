/- Contract of BookPlayed (the reference). Conditions: none beyond what each theorem states. -/
import Derived.Test.YtiljallignlbgaaBookE
import Derived.Test.YtiljallignlbgaaBookG
namespace Go.Proofs.Ytiljallignlbgaa
open Go.RowKit
set_option linter.unusedVariables false

def ApartR (p : BrL) (outs : List Rul) : Prop := ∀ x ∈ outs, ∀ q, (Value.slice x.A x.n x.c).ownBlock = some q → ¬ p.has q
theorem BrAt.grown {w w' : World} {base base' nb size n : Nat} {p : BrL} {most ticks : Int} {s : BrS} {v : Value} {e : TypeId} {xs : List Value} (h : BrAt w base nb p most ticks s) (hown : w.ownsRow base' e size v n xs) (h1 : e ≠ 73) (h2 : e ≠ 3) (hg : w.grownBy w' v.ownBlock) : BrAt w' base nb p most ticks s := by
  have ho : Only (fun k => v.ownBlock = some k) w w' := (Only.refl _ _).grown hg fun k hk _ => hk
  refine h.only ho fun k hk e1 => ?_
  rcases hk with rfl | rfl | rfl | rfl | rfl
  · exact own_blk_ne hown h.blk h1 e1
  · exact own_blk_ne hown h.rw_ h2 e1
  · exact own_blk_ne hown h.rg h2 e1
  · exact own_blk_ne hown h.rs h2 e1
  · exact own_blk_ne hown h.rq h2 e1
theorem BrAt.far {W WF : World} {base nb b : Nat} {p : BrL} {most ticks : Int} {s : BrS} {cs : Array Value} (h : BrAt W base nb p most ticks s) (kb : Blk W b 45 cs) (hF : Only (fun k => k = b) W WF) : BrAt WF base nb p most ticks s :=
  h.only hF fun k hk e => by
    subst e
    rcases hk with e | e | e | e | e
    · exact Blk.ne_ h.blk (e ▸ kb) (by decide) rfl
    · exact Blk.ne_ h.rw_ (e ▸ kb) (by decide) rfl
    · exact Blk.ne_ h.rg (e ▸ kb) (by decide) rfl
    · exact Blk.ne_ h.rs (e ▸ kb) (by decide) rfl
    · exact Blk.ne_ h.rq (e ▸ kb) (by decide) rfl
/-- what the switch leaves -/
def BCut (base nb g b k : Nat) (v : Value) (w : World) (outs : List Rul) (most ticks : Int) (r : BrS × RulD) (W : World) : Prop :=
  ∃ (p : BrL) (A : Option Addr) (n c : Nat), p.g = g ∧ (∀ q, p.has q → base ≤ q) ∧ BrAt W base nb p most ticks r.1 ∧ Blk W b 45 #[.int .i64 r.2.code, .slice A n c, .int .i64 r.2.report] ∧ RulOwn ⟨r.2, A, n, c⟩ W base ∧ OutR W base v k outs ∧ ApartR p (outs ++ [⟨r.2, A, n, c⟩]) ∧ Below base w W
theorem OutR.far {W WF : World} {base k b : Nat} {v : Value} {outs : List Rul} {cs : Array Value} (h : OutR W base v k outs) (kb : Blk W b 45 cs) (hv : ∀ q, v.ownBlock = some q → q ≠ b) (hF : Only (fun k => k = b) W WF) : OutR WF base v k outs :=
  h.only hF hv fun x hx q hq e => own_blk_ne (h.rows x hx) kb (by decide) (by rw [hq, e])
theorem bcut_code {base nb g b k : Nat} {v : Value} {w W WF : World} {outs : List Rul} {most ticks : Int} {s : BrS} {p : BrL} {cd : Int} (hg : p.g = g) (hlow : ∀ q, p.has q → base ≤ q) (hx : BrAt W base nb p most ticks s) (kb : Blk W b 45 #[.int .i64 0, .slice none 0 0, .int .i64 (-1)]) (ho : OutR W base v k outs) (hap : ApartR p outs)
    (hv : ∀ q, v.ownBlock = some q → q ≠ b) (hb : Below base w W) (hbb : base ≤ b) (hbw : base ≤ W.heap.size) (hF : WF = W.setCell ⟨b, 0, none⟩ (.int .i64 cd)) : BCut base nb g b k v w outs most ticks (s, ⟨cd, [], -1⟩) WF := by
  have hO : Only (fun k => k = b) W WF := by rw [hF]; exact only_put (Only.refl _ _) _ _
  refine ⟨p, none, 0, 0, hg, hlow, hx.far kb hO, by rw [hF]; exact kb.set_ 0 _, World.ownsRow_nil _ _ _ _, ho.far kb hv hO, fun x hx q hq => ?_, hb.trans (hO.to_below (fun x hx _ e => by omega) hbw)⟩
  rcases List.mem_append.1 hx with h1 | h1
  · exact hap x h1 q hq
  · rw [List.mem_singleton] at h1
    subst h1
    cases hq
def bookR (br most ticks : Int) (l : List CallD) : List RulD × Int :=
  if br < 1 ∨ 8 < br ∨ most < 0 ∨ 1048576 < most ∨ ticks < 1 ∨ 8 < ticks then ([], 2) else if 300 < l.length then ([], 1) else (playBr most ticks br.toNat (BrS.new br.toNat) l, 0)
theorem book_same (br most ticks : Int) (l : List CallD) : bookP br most ticks l = bookR br most ticks l := by
  unfold bookP bookR
  split
  · rfl
  · rename_i h
    split
    · rfl
    · rw [play_sameB (by omega) (by omega) l _ _ _ (new_sameB ticks br.toNat) (new_okB br.toNat)]
theorem playBr_drop (most ticks : Int) (nb : Nat) (s : BrS) (l : List CallD) (k : Nat) (x : CallD) (h : l[k]? = some x) : playBr most ticks nb s (l.drop k) = (callR most ticks nb s x).2 :: playBr most ticks nb (callR most ticks nb s x).1 (l.drop (k + 1)) := by rw [drop_cons l k x h]; rfl
/-- a state of the program's beside the reference's -/
def Beside (ticks : Int) (nb : Nat) (K : Int) (r : BrS) : Prop := ∃ s : BkS, SameB ticks nb s r ∧ s.ok nb K
theorem beside_next {most ticks : Int} {nb : Nat} {K : Int} {r : BrS} (h : Beside ticks nb K r) (hm : 0 ≤ most ∧ most ≤ 1048576) (ht : 1 ≤ ticks) (c : CallD) : Beside ticks nb (K + 1) (callR most ticks nb r c).1 := by
  obtain ⟨s, h1, h2⟩ := h
  exact ⟨_, (call_same h1 h2 hm ht c).1, call_ok h2 hm c⟩
theorem epoch_sameB {most ticks : Int} {nb : Nat} {s : BkS} {r : BrS} {K : Int} (h : SameB ticks nb s r) (ho : s.ok nb K) (hm : 0 ≤ most ∧ most ≤ 1048576) : SameB ticks nb (epoch most s) (openR most nb r) := by
  obtain ⟨g1, g2, g3⟩ := gives_facts s.reserve (List.replicate s.wants.length most) ho.res.1 (fun w hw => by have := List.eq_of_mem_replicate hw; omega)
  rw [ho.lw] at g1 g2
  rw [List.length_replicate] at g1
  have hz : ∀ i, (List.replicate nb (0 : Int)).getD i 0 = 0 := fun i => by rw [List.getD_eq_getElem?_getD, List.getElem?_replicate]; split <;> rfl
  refine ⟨h.rd, h.res, h.all, h.w, h.g, by simp [openR], by simp only [openR]; rw [h.res]; exact g1, fun i hi => ?_, fun i hi => ?_⟩
  · simp only [epoch, openR]
    rw [hz, h.res, ho.lw]
    omega
  · simp only [openR]
    rw [hz, h.res]
    have := g2 _ (List.mem_of_getElem? (get_of_lt g1 hi))
    omega
theorem beside_gv {most ticks : Int} {nb : Nat} {K : Int} {r : BrS} (h : Beside ticks nb K r) (hm : 0 ≤ most ∧ most ≤ 1048576) (ht : 1 ≤ ticks ∧ ticks ≤ 8) : r.ok nb ∧ ∀ i, i ≤ nb → (gv { (if r.rounds = 0 then openR most nb r else r) with rounds := (r.rounds + 1) % ticks } i).ok nb := by
  obtain ⟨s, h1, h2⟩ := h
  refine ⟨brs_ok h1 h2 ht, fun i hi => ?_⟩
  have hrd : (r.rounds + 1) % ticks = (s.round + 1) % ticks := by rw [h1.rd]; simp [Int.add_emod]
  have key : ∀ (t : BkS) (u : BrS), SameB ticks nb t u → t.ok nb K → (gv { u with rounds := (r.rounds + 1) % ticks } i).ok nb := fun t u hs ht' => by
    have h0 : ({ t with round := s.round + 1 } : BkS).ok nb (K + 1) := ⟨ht'.lw, ht'.lg, ht'.lq, (show 0 ≤ s.round + 1 ∧ s.round + 1 ≤ K + 1 by have := h2.rd; omega), ht'.res, ht'.w, ht'.g, ht'.gw, ht'.q, ht'.qs⟩
    have hs0 : SameB ticks nb ({ t with round := s.round + 1 } : BkS) ({ u with rounds := (r.rounds + 1) % ticks } : BrS) := ⟨hrd, hs.res, hs.all, hs.w, hs.g, hs.ls, hs.lq, hs.q, hs.bd⟩
    exact brs_ok (gv_same hs0 h0 i hi) (rnd_ok h0 i hi) ht
  split
  · exact key _ _ (epoch_sameB h1 h2 hm) (epoch_ok h2 hm)
  · exact key _ _ h1 h2

set_option maxRecDepth 100000 in
set_option maxHeartbeats 20000000 in
theorem bookPlay_ref (br most ticks : Int) (A : Option Addr) (n c : Nat) (l : List CallD) (B : Nat) (w : World) (hl : l.length = n) (hnc : n ≤ c) (hcm : c ≤ maxLen) (hr : Reads w B 3 A n (l.flatMap CallD.cells)) (hB : B ≤ w.heap.size) :
    Calls Try.prog 12 #[.int .i64 br, .int .i64 most, .int .i64 ticks, .slice A n c] w fun e w' => RulsPost w.heap.size (bookR br most ticks l) e w w' := by
  obtain ⟨i0, hi, hz0, hz1, hz2⟩ := ruling_info
  have HR := hide (hr.more hB)
  have HL := hide hl
  have hm : n ≤ 9223372036854775807 := by unfold maxLen at hcm; omega
  clear hr hl
  by_cases hbad : br < 1 ∨ 8 < br ∨ most < 0 ∨ 1048576 < most ∨ ticks < 1 ∨ 8 < ticks
  · have HF := hide (show bookR br most ticks l = ([], 2) from if_pos hbad)
    by_cases a1 : br < 1
    · clear hbad
      go_enter Try.func12, Try.ntmps12
      go_wp2_with fail
      go_ret2
      rw [unhide HF]
      exact rulsPost_nil (Below.refl _ _)
    by_cases a2 : 8 < br
    · clear hbad
      go_enter Try.func12, Try.ntmps12
      go_wp2_with fail
      go_ret2
      rw [unhide HF]
      exact rulsPost_nil (Below.refl _ _)
    by_cases a3 : most < 0
    · clear hbad
      go_enter Try.func12, Try.ntmps12
      go_wp2_with fail
      go_ret2
      rw [unhide HF]
      exact rulsPost_nil (Below.refl _ _)
    by_cases a4 : 1048576 < most
    · clear hbad
      go_enter Try.func12, Try.ntmps12
      go_wp2_with fail
      go_ret2
      rw [unhide HF]
      exact rulsPost_nil (Below.refl _ _)
    by_cases a5 : ticks < 1
    · clear hbad
      go_enter Try.func12, Try.ntmps12
      go_wp2_with fail
      go_ret2
      rw [unhide HF]
      exact rulsPost_nil (Below.refl _ _)
    · have a6 : 8 < ticks := by omega
      clear hbad
      go_enter Try.func12, Try.ntmps12
      go_wp2_with fail
      go_ret2
      rw [unhide HF]
      exact rulsPost_nil (Below.refl _ _)
  obtain ⟨nb, rfl⟩ := Int.eq_ofNat_of_zero_le (show 0 ≤ br by omega)
  have hnb : 1 ≤ nb ∧ nb ≤ 8 := by omega
  have hb1 : 1 ≤ (nb : Int) := by omega
  have hb2 : (nb : Int) ≤ 8 := by omega
  have hmo : 0 ≤ most ∧ most ≤ 1048576 := by omega
  have hti : 1 ≤ ticks ∧ ticks ≤ 8 := by omega
  by_cases h3 : 300 < n
  · have HF := hide (show bookR nb most ticks l = ([], 1) by unfold bookR; rw [if_neg hbad, if_pos (by rw [unhide HL]; exact h3)])
    have h3' : (300 : Int) < (n : Int) := by omega
    clear hbad
    go_enter Try.func12, Try.ntmps12
    go_wp2_with fail
    go_ret2
    rw [unhide HF]
    exact rulsPost_nil (Below.refl _ _)
  have HF := hide (show bookR nb most ticks l = (playBr most ticks nb (BrS.new nb) l, 0) by unfold bookR; rw [if_neg hbad, if_neg (by rw [unhide HL]; exact h3), Int.toNat_natCast])
  have h3' : (n : Int) ≤ 300 := by omega
  have hn3 : n ≤ 300 := by omega
  have HMB := hide (show ∀ k, k < n → (k + 1) * 40 ≤ 140737488355328 from fun k hk => by omega)
  clear h3 hbad
  have HNW := hide (brokerNew_any w.heap.size nb most ticks w hnb.2 (Nat.le_refl _))
  go_enter Try.func12, Try.ntmps12
  go_wp2_with fail
  refine (unhide HNW).mono ?_
  rintro _ w1 ⟨p0, rfl, hof, hb1', hlow⟩
  have HOF := hide hof
  have HB1 := hide hb1'
  have HLOW := hide hlow
  obtain ⟨g, hg⟩ : ∃ g, g = p0.g := ⟨_, rfl⟩
  rw [← hg]
  have HG := hide hg.symm
  clear hof hb1' hlow hg
  go_wp2_with fail
  go_loopw [11, 46] (fun v i wr => ∃ (k : Nat) (outs : List Rul) (p : BrL) (s : BrS), k ≤ n ∧ i = .int .i64 k ∧ Hid (OutR wr w.heap.size v k outs) ∧ Hid (BrAt wr w.heap.size nb p most ticks s) ∧ Hid (p.g = g ∧ (∀ q, p.has q → w.heap.size ≤ q) ∧ ApartR p outs) ∧ Hid (Beside ticks nb k s) ∧ Hid (playBr most ticks nb (BrS.new nb) l = outs.map (·.d) ++ playBr most ticks nb s (l.drop k)) ∧ Below w.heap.size w wr) (fun _ i _ => n - (intOf i).toNat)
  case atStart => exact ⟨0, [], p0, BrS.new nb, Nat.zero_le _, rfl, OutR.nil _ _, HOF, ⟨unhide HG, unhide HLOW, fun x hx => by cases hx⟩, ⟨_, new_sameB ticks nb, new_okB nb⟩, rfl, unhide HB1⟩
  case round =>
    obtain ⟨k, outs, p, s, hk, rfl, HOU, HSA, HPG, HSO, HSP, hb⟩ := hrel
    by_cases hlt : k < n
    · obtain ⟨bx, o, x, rfl, _, hx, hcx⟩ := at_row CallD.cells_len (by omega) ((unhide HR).below hb) hlt (unhide HL)
      have e0 := hcx 0 _ rfl
      have e1 := hcx 1 _ rfl
      have e2 := hcx 2 _ rfl
      simp only [Nat.add_zero] at e0
      have hkn : (k : Int) < (n : Int) := by omega
      have hbs := hb.size
      have HSP2 := hide (show playBr most ticks nb (BrS.new nb) l = (outs.map (·.d) ++ [(callR most ticks nb s x).2]) ++ playBr most ticks nb (callR most ticks nb s x).1 (l.drop (k + 1)) by rw [unhide HSP, playBr_drop most ticks nb _ _ k x hx]; simp)
      have HNB := hide (beside_next (unhide HSO) hmo hti.1 x)
      have HGV := hide (beside_gv (unhide HSO) hmo hti)
      have HBS := hide hb
      obtain ⟨xk, xw, xc⟩ := x
      dsimp only at e0 e1 e2
      have hmk := unhide HMB k hlt
      obtain ⟨b0, hb0⟩ : ∃ b0, b0 = wr.heap.size := ⟨_, rfl⟩
      obtain ⟨wy, hwy⟩ : ∃ wy, wy = (wr.alloc (.cells #[.int .i64 xk, .int .i64 xw, .int .i64 xc] 66)).alloc (.cells #[.int .i64 0, .slice none 0 0, .int .i64 (-1)] 45) := ⟨_, rfl⟩
      have hbx : Below wr.heap.size wr wy := by rw [hwy]; exact ((Below.refl _ _).alloc (Nat.le_refl _) _).alloc (by simp) _
      have k0 : Blk wy b0 66 #[.int .i64 xk, .int .i64 xw, .int .i64 xc] := by rw [hwy, hb0]; exact (Blk.new wr 66 _).alloc _
      have k1 : Blk wy (b0 + 1) 45 #[.int .i64 0, .slice none 0 0, .int .i64 (-1)] := by
        have h := Blk.new (wr.alloc (.cells #[.int .i64 xk, .int .i64 xw, .int .i64 xc] 66)) 45 #[.int .i64 0, .slice none 0 0, .int .i64 (-1)]
        rw [hwy, hb0]
        simpa using h
      have HK0 := hide k0
      have HK1 := hide k1
      have HBX := hide hbx
      have HWY := hide hwy
      have HB0 := hide hb0
      clear hbx k0 k1 hwy hb0 hx hcx hb HSP
      go_upto_block 2 with fail
      rw [← unhide HWY, ← unhide HB0]
      clear e0 e1 e2
      go_cut [56] (fun s56 W => Hid (BCut w.heap.size nb g (b0 + 1) k u11 w outs most ticks (callR most ticks nb s ⟨xk, xw, xc⟩) W))
      case first =>
        have hpg := (unhide HPG).1
        subst hpg
        have q0 : wy.cell? ⟨b0, 0, none⟩ = some (.int .i64 xk) := (unhide HK0).cell 0
        have q1 : wy.cell? ⟨b0, 1, none⟩ = some (.int .i64 xw) := (unhide HK0).cell 1
        have q2 : wy.cell? ⟨b0, 2, none⟩ = some (.int .i64 xc) := (unhide HK0).cell 2
        have v0 : wy.cell? ⟨b0 + 1, 0, none⟩ = some (.int .i64 0) := (unhide HK1).cell 0
        have f0 := (unhide HK1).frozen 0
        have hne : ∀ q, u11.ownBlock = some q → q ≠ b0 + 1 := fun q hq => by have := ((unhide HOU).own.lt q hq).2; have := unhide HB0; omega
        have hbp : w.heap.size ≤ b0 + 1 := by have := unhide HB0; omega
        have HBY := hide (show Below w.heap.size w wy from (unhide HBS).trans ((unhide HBX).mono hbs))
        have HXy := hide ((unhide HSA).calm (unhide HBX))
        have HOUy := hide ((unhide HOU).calm (unhide HBX))
        have hplt : ∀ q, p.has q → q < b0 := fun q hq => by have := (unhide HSA).lt q hq; have := unhide HB0; omega
        have HPL := hide hplt
        have hok := (unhide HGV).1
        have HOKB := hide hok
        have c5 : wy.cell? ⟨p.g, 5, none⟩ = some (.int .i64 s.ever) := (unhide HXy).blk.cell 5
        have hever : 0 ≤ s.ever ∧ s.ever ≤ 1048576 ∧ 0 ≤ s.reserve ∧ s.reserve ≤ s.ever := by
          obtain ⟨t, h1, h2⟩ := unhide HSO
          have := h2.res
          rw [h1.all, h1.res]
          omega
        have CODE := hide (fun (cd : Int) (W : World) (hW : Below wy.heap.size wy W) (hr : callR most ticks nb s ⟨xk, xw, xc⟩ = (s, ⟨cd, [], -1⟩)) => show Hid (BCut w.heap.size nb p.g (b0 + 1) k u11 w outs most ticks (callR most ticks nb s ⟨xk, xw, xc⟩) (W.setCell ⟨b0 + 1, 0, none⟩ (.int .i64 cd))) from by
          rw [hr]
          exact bcut_code rfl (unhide HPG).2.1 ((unhide HXy).calm hW) ((unhide HK1).below hW (unhide HK1).lt) ((unhide HOUy).calm hW) (unhide HPG).2.2 hne ((unhide HBY).trans (hW.mono (unhide HBY).size)) hbp (Nat.le_trans (unhide HBY).size hW.size) rfl)
        have HNE := hide hne
        clear hplt hok hne
        by_cases h3 : xk = 3
        · as_aux_lemma =>
            subst h3
            have HRC := hide (show callR most ticks nb s ⟨3, xw, xc⟩ = ((givesR most ticks nb s).1, ⟨0, (givesR most ticks nb s).2.1, (givesR most ticks nb s).2.2⟩) by unfold callR; rw [if_pos rfl])
            have HGI := hide (brokerGives_any w.heap.size nb p most ticks s wy (unhide HXy) (unhide HGV).1 (unhide HGV).2 hnb hmo hti (unhide HBY).size)
            generalize givesR most ticks nb s = r at HRC HGI
            obtain ⟨s2, gr, rep⟩ := r
            dsimp only at HRC
            go_wp2_with fail
            refine (unhide HGI).mono ?_
            rintro _ w4 ⟨p4, A4, n4, rfl, hrow4, hx4, hpg4, hp4, ho4, hap4⟩
            dsimp only at hrow4 hx4
            have hnh : ∀ q, b0 ≤ q → ¬ p.has q := fun q hq h => by have := unhide HPL q h; omega
            have k14 := (unhide HK1).only ho4 (hnh _ (by omega))
            have y1 : w4.cell? ⟨b0 + 1, 1, none⟩ = some (.slice none 0 0) := k14.cell 1
            have y2 : w4.cell? ⟨b0 + 1, 2, none⟩ = some (.int .i64 (-1)) := k14.cell 2
            have y1f := k14.frozen 1
            have y2f := k14.frozen 2
            have HK14 := hide k14
            have HX4 := hide hx4
            have HR4 := hide (show RulOwn ⟨⟨0, gr, rep⟩, A4, nb, n4⟩ w4 w.heap.size from own_mono hrow4 (unhide HBY).size)
            have HOU4 := hide ((unhide HOUy).only ho4 (fun q hq hh => by
              have hou := unhide HOUy
              have hx := unhide HXy
              rcases hh with rfl | rfl | rfl | rfl | rfl
              · exact own_blk_ne hou.own hx.blk (by decide) hq
              · exact own_blk_ne hou.own hx.rw_ (by decide) hq
              · exact own_blk_ne hou.own hx.rg (by decide) hq
              · exact own_blk_ne hou.own hx.rs (by decide) hq
              · exact own_blk_ne hou.own hx.rq (by decide) hq) (fun y hy q hq hh => (unhide HPG).2.2 y hy q hq hh))
            have HB4 := hide ((unhide HBY).trans (ho4.to_below (fun x hx _ h => by have := (unhide HPG).2.1 x h; omega) (unhide HBY).size))
            have HPP := hide (show p4.g = p.g ∧ (∀ q, p4.has q → w.heap.size ≤ q) ∧ ApartR p4 (outs ++ [⟨⟨0, gr, rep⟩, A4, nb, n4⟩]) from by
              have hby := (unhide HBY).size
              refine ⟨hpg4, fun q hq => ?_, fun x hx q hq hh => ?_⟩
              · rcases hp4 q hq with h | h
                · exact (unhide HPG).2.1 q h
                · omega
              · rcases List.mem_append.1 hx with h1 | h1
                · rcases hp4 q hh with h2 | h2
                  · exact (unhide HPG).2.2 x h1 q hq h2
                  · have := (((unhide HOUy).rows x h1).lt q hq).2; omega
                · rw [List.mem_singleton] at h1
                  subst h1
                  exact hap4 q hq hh)
            clear hrow4 hx4 hpg4 hp4 ho4 hap4 hnh k14
            go_wp2_with fail
            go_meet
            rw [unhide HRC]
            have hO6 : Only (fun q => q = b0 + 1) w4 ((w4.setCell ⟨b0 + 1, 1, none⟩ (.slice A4 nb n4)).setCell ⟨b0 + 1, 2, none⟩ (.int .i64 rep)) := only_put (only_put (Only.refl _ _) _ _) _ _
            have k6 : Blk ((w4.setCell ⟨b0 + 1, 1, none⟩ (.slice A4 nb n4)).setCell ⟨b0 + 1, 2, none⟩ (.int .i64 rep)) (b0 + 1) 45 #[.int .i64 0, .slice A4 nb n4, .int .i64 rep] := ((unhide HK14).set_ 1 _).set_ 2 _
            exact ⟨p4, A4, nb, n4, (unhide HPP).1, (unhide HPP).2.1, (unhide HX4).far (unhide HK14) hO6, k6, own_only (unhide HR4) hO6 (fun q hq e => own_blk_ne (unhide HR4) (unhide HK14) (by decide) (by rw [hq, e])), (unhide HOU4).far (unhide HK14) (unhide HNE) hO6, (unhide HPP).2.2, (unhide HB4).trans (hO6.to_below (fun x hx _ e => by omega) (unhide HB4).size)⟩
        have e3 : (xk == 3) = false := by simpa using h3
        by_cases h1 : xk = 1
        · subst h1
          clear e3 h3
          by_cases a1 : xc < 1
          · have HF := hide (unhide CODE 2 wy (Below.refl _ _) (by unfold callR; rw [if_neg (show ¬ (1 : Int) = 3 by decide), if_pos ⟨rfl, .inl a1⟩]))
            go_wp2_with fail
            go_meet
            exact unhide HF
          by_cases a2 : 1048576 < xc
          · have HF := hide (unhide CODE 2 wy (Below.refl _ _) (by unfold callR; rw [if_neg (show ¬ (1 : Int) = 3 by decide), if_pos ⟨rfl, .inr a2⟩]))
            go_wp2_with fail
            go_meet
            exact unhide HF
          by_cases a3 : 1048576 < s.ever + xc
          · have HF := hide (fun n => unhide CODE 12 (wy.drewN n) (below_drewN (Below.refl _ _) n) (by unfold callR; rw [if_neg (show ¬ (1 : Int) = 3 by decide), if_neg (show ¬ ((1 : Int) = 1 ∧ (xc < 1 ∨ 1048576 < xc)) by omega), if_pos ⟨rfl, a3⟩]))
            go_wp2_with fail
            go_quiet (fail)
            go_wp2_with fail
            go_meet
            exact unhide HF _
          · as_aux_lemma =>
              have HRC := hide (show callR most ticks nb s ⟨1, xw, xc⟩ = ({ s with ever := s.ever + xc, reserve := s.reserve + xc }, ⟨0, [], -1⟩) by unfold callR; rw [if_neg (show ¬ (1 : Int) = 3 by decide), if_neg (show ¬ ((1 : Int) = 1 ∧ (xc < 1 ∨ 1048576 < xc)) by omega), if_neg (show ¬ ((1 : Int) = 1 ∧ 1048576 < s.ever + xc) by omega), if_pos rfl])
              have a3' : s.ever + xc ≤ 1048576 := by omega
              clear a3
              go_wp2_with fail
              go_quiet (fail)
              obtain ⟨na, rfl⟩ : ∃ m, m = nq := ⟨_, rfl⟩
              go_wp2_with fail
              obtain ⟨wa, hwa⟩ : ∃ wa, wa = wy.drewN na := ⟨_, rfl⟩
              rw [← hwa]
              have hba : Below wy.heap.size wy wa := by rw [hwa]; exact below_drewN (Below.refl _ _) _
              have HXa := hide ((unhide HXy).calm hba)
              have HBA := hide hba
              have x5 : wa.cell? ⟨p.g, 5, none⟩ = some (.int .i64 s.ever) := (unhide HXa).blk.cell 5
              have x5f : wa.frozen? ⟨p.g, 5, none⟩ = false := (unhide HXa).blk.frozen 5
              have x2 : wa.cell? ⟨b0, 2, none⟩ = some (.int .i64 xc) := ((unhide HK0).below hba (unhide HK0).lt).cell 2
              clear hwa hba c5 q0 q1 q2 v0 f0
              refine wp_region_draw_full [] [0, 1, 2, 3, 4, 5, 6] [] [] 7 [8, 9] (by kernel_rfl) (by kernel_rfl) (by intro c a d v w h; cases d <;> exact h) ?_
              simp only [pickOps, List.map_cons, List.map_nil, List.getD_cons_zero, List.getD_cons_succ]
              refine wpQuiet_nil ?_
              repeat (go_big_quiet_step (fail))
              refine wpQuiet_nil (wpQuiet_nil ?_)
              rintro _ ⟨nc, rfl⟩
              simp only [wpAl]
              go_upto_region 20 with fail
              obtain ⟨wb, hwb⟩ : ∃ wb, wb = (wa.drewN nc).setCell ⟨p.g, 5, none⟩ (.int .i64 (s.ever + xc)) := ⟨_, rfl⟩
              have hXb : BrAt wb w.heap.size nb p most ticks { s with ever := s.ever + xc } := by
                have h := (unhide HXa).only (D := fun _ => False) ((Only.refl _ wa).drewN nc) (fun _ _ e => e)
                rw [hwb]
                exact ⟨h.blk.set_ 5 _, Blk.far h.rw_ (Ne.symm h.ng.1) _, Blk.far h.rg (Ne.symm h.ng.2.1) _, Blk.far h.rs (Ne.symm h.ng.2.2.1) _, Blk.far h.rq (Ne.symm h.ng.2.2.2) _, h.cap, h.low, h.ne⟩
              have hOb : Only (fun q => q = p.g) wy wb := by rw [hwb]; exact only_put ((Only.of_below (unhide HBA) (fun x h1 h2 => by omega)).drewN _) _ _
              rw [← hwb]
              have hg0 : p.g < b0 := unhide HPL p.g (.inl rfl)
              have HXb := hide hXb
              have HOB := hide hOb
              have y4 : wb.cell? ⟨p.g, 4, none⟩ = some (.int .i64 s.reserve) := hXb.blk.cell 4
              have y4f : wb.frozen? ⟨p.g, 4, none⟩ = false := hXb.blk.frozen 4
              have y2 : wb.cell? ⟨b0, 2, none⟩ = some (.int .i64 xc) := ((unhide HK0).only hOb (fun e => by omega)).cell 2
              clear hwb hXb hOb x5 x5f x2
              refine wp_region_draw_full [] [0, 1, 2, 3, 4, 5, 6] [] [] 7 [8, 9] (by kernel_rfl) (by kernel_rfl) (by intro c a d v w h; cases d <;> exact h) ?_
              simp only [pickOps, List.map_cons, List.map_nil, List.getD_cons_zero, List.getD_cons_succ]
              refine wpQuiet_nil ?_
              repeat (go_big_quiet_step (fail))
              refine wpQuiet_nil (wpQuiet_nil ?_)
              rintro _ ⟨nd, rfl⟩
              simp only [wpAl]
              go_wp2_with fail
              go_meet
              rw [unhide HRC]
              have hOf : Only (fun q => q = p.g) wy ((wb.drewN nd).setCell ⟨p.g, 4, none⟩ (.int .i64 (s.reserve + xc))) := only_put ((unhide HOB).drewN _) _ _
              have h := (unhide HXb).only (D := fun _ => False) ((Only.refl _ wb).drewN nd) (fun _ _ e => e)
              have hxf : BrAt ((wb.drewN nd).setCell ⟨p.g, 4, none⟩ (.int .i64 (s.reserve + xc))) w.heap.size nb p most ticks { s with ever := s.ever + xc, reserve := s.reserve + xc } := ⟨h.blk.set_ 4 _, Blk.far h.rw_ (Ne.symm h.ng.1) _, Blk.far h.rg (Ne.symm h.ng.2.1) _, Blk.far h.rs (Ne.symm h.ng.2.2.1) _, Blk.far h.rq (Ne.symm h.ng.2.2.2) _, h.cap, h.low, h.ne⟩
              refine ⟨p, none, 0, 0, rfl, (unhide HPG).2.1, hxf, (unhide HK1).only hOf (fun e => by omega), World.ownsRow_nil _ _ _ _, (unhide HOUy).only hOf (fun q hq e => own_blk_ne (unhide HOUy).own (unhide HXy).blk (by decide) (by rw [hq, e])) (fun y hy q hq e => own_blk_ne ((unhide HOUy).rows y hy) (unhide HXy).blk (by decide) (by rw [hq, e])), fun x hx q hq => ?_, (unhide HBY).trans (hOf.to_below (fun x hx _ e => by have := (unhide HPG).2.1 p.g (.inl rfl); omega) (unhide HBY).size)⟩
              rcases List.mem_append.1 hx with h1 | h1
              · exact (unhide HPG).2.2 x h1 q hq
              · rw [List.mem_singleton] at h1
                subst h1
                cases hq
        have e1 : (xk == 1) = false := by simpa using h1
        have hR0 : callR most ticks nb s ⟨xk, xw, xc⟩ = if xk = 2 ∧ (xw < 0 ∨ nb ≤ xw ∨ xc < 0 ∨ 1048576 < xc) then (s, ⟨2, [], -1⟩) else if xk = 2 then ({ s with wants := if s.wants.getD xw.toNat 0 < xc then s.wants.set xw.toNat xc else s.wants }, ⟨0, [], -1⟩) else (s, ⟨3, [], -1⟩) := by
          unfold callR
          rw [if_neg h3, if_neg (fun e : xk = 1 ∧ (xc < 1 ∨ 1048576 < xc) => h1 e.1), if_neg (fun e : xk = 1 ∧ 1048576 < s.ever + xc => h1 e.1), if_neg h1]
        have HR0 := hide hR0
        clear hR0 h1 h3
        by_cases h2 : xk = 2
        · subst h2
          clear e1 e3
          by_cases a1 : xw < 0
          · have HF := hide (fun n => unhide CODE 2 (wy.drewN n) (below_drewN (Below.refl _ _) n) (by rw [unhide HR0, if_pos ⟨rfl, .inl a1⟩]))
            go_wp2_with fail
            go_quiet (fail)
            go_wp2_with fail
            go_meet
            exact unhide HF _
          obtain ⟨j, rfl⟩ := Int.eq_ofNat_of_zero_le (show 0 ≤ xw by omega)
          by_cases a2 : nb ≤ j
          · have HF := hide (fun n => unhide CODE 2 (wy.drewN n) (below_drewN (Below.refl _ _) n) (by rw [unhide HR0, if_pos ⟨rfl, .inr (.inl (by omega))⟩]))
            have a2' : (nb : Int) ≤ (j : Int) := by omega
            go_wp2_with fail
            go_quiet (fail)
            go_wp2_with fail
            go_meet
            exact unhide HF _
          have a2' : (j : Int) < (nb : Int) := by omega
          by_cases a3 : xc < 0
          · have HF := hide (fun n => unhide CODE 2 (wy.drewN n) (below_drewN (Below.refl _ _) n) (by rw [unhide HR0, if_pos ⟨rfl, .inr (.inr (.inl a3))⟩]))
            go_wp2_with fail
            go_quiet (fail)
            go_wp2_with fail
            go_meet
            exact unhide HF _
          by_cases a4 : 1048576 < xc
          · have HF := hide (fun n => unhide CODE 2 (wy.drewN n) (below_drewN (Below.refl _ _) n) (by rw [unhide HR0, if_pos ⟨rfl, .inr (.inr (.inr a4))⟩]))
            go_wp2_with fail
            go_quiet (fail)
            go_wp2_with fail
            go_meet
            exact unhide HF _
          · as_aux_lemma =>
              have HRC := hide (show callR most ticks nb s ⟨2, j, xc⟩ = ({ s with wants := if s.wants.getD j 0 < xc then s.wants.set j xc else s.wants }, ⟨0, [], -1⟩) by rw [unhide HR0, if_neg (by omega), if_pos rfl, Int.toNat_natCast])
              have HLW := hide (show j < s.wants.length by rw [(unhide HOKB).lw]; omega)
              have c6 : wy.cell? ⟨p.g, 6, none⟩ = some (.slice (some ⟨p.gw, 0, none⟩) nb nb) := (unhide HXy).blk.cell 6
              have cw : wy.cell? ⟨p.gw, j, none⟩ = some (.int .i64 (s.wants.getD j 0)) := IRow.cell (unhide HXy).rw_ (get_of_lt (unhide HOKB).lw (by omega))
              have cwf : wy.frozen? ⟨p.gw, j, none⟩ = false := IRow.frozen (unhide HXy).rw_ j
              have hgw : p.gw < b0 := unhide HPL p.gw (.inr (.inl rfl))
              obtain ⟨x, hx⟩ : ∃ x, x = s.wants.getD j 0 := ⟨_, rfl⟩
              rw [← hx] at HRC cw
              clear hx
              by_cases a5 : x < xc
              · have HRC2 := hide (show callR most ticks nb s ⟨2, j, xc⟩ = ({ s with wants := s.wants.set j xc }, ⟨0, [], -1⟩) by rw [unhide HRC, if_pos a5])
                go_wp2_with fail
                go_quiet (fail)
                obtain ⟨na, rfl⟩ : ∃ m, m = nq := ⟨_, rfl⟩
                go_wp2_with fail
                go_quiet (fail)
                go_wp2_with fail
                obtain ⟨wa, hwa⟩ : ∃ wa, wa = (wy.drewN na).drewN nq := ⟨_, rfl⟩
                rw [← hwa]
                have hba : Below wy.heap.size wy wa := by rw [hwa]; exact below_drewN (below_drewN (Below.refl _ _) _) _
                have HXa := hide ((unhide HXy).calm hba)
                have HBA := hide hba
                have x6 : wa.cell? ⟨p.g, 6, none⟩ = some (.slice (some ⟨p.gw, 0, none⟩) nb nb) := (unhide HXa).blk.cell 6
                have xw1 : wa.cell? ⟨b0, 1, none⟩ = some (.int .i64 j) := ((unhide HK0).below hba (unhide HK0).lt).cell 1
                have xc1 : wa.cell? ⟨b0, 2, none⟩ = some (.int .i64 xc) := ((unhide HK0).below hba (unhide HK0).lt).cell 2
                have xcw : (wa.cell? ⟨p.gw, j, none⟩).isSome = true := by
                  have h1 : wa.cell? ⟨p.gw, j, none⟩ = some (.int .i64 (s.wants.getD j 0)) := IRow.cell (unhide HXa).rw_ (get_of_lt (unhide HOKB).lw (by omega))
                  rw [h1]; rfl
                have xcw2 : wa.cell? ⟨p.gw, j, none⟩ = some (.int .i64 (s.wants.getD j 0)) := IRow.cell (unhide HXa).rw_ (get_of_lt (unhide HOKB).lw (by omega))
                have xcf : wa.frozen? ⟨p.gw, j, none⟩ = false := IRow.frozen (unhide HXa).rw_ j
                clear hwa hba c5 c6 cw cwf q0 q1 q2 v0 f0 xcw
                refine wp_region_draw_full [] [0, 1, 2, 3, 4, 5, 6, 7] [] [] 8 [9] (by kernel_rfl) (by kernel_rfl) (by intro c a d v w h; cases d <;> exact h) ?_
                simp only [pickOps, List.map_cons, List.map_nil, List.getD_cons_zero, List.getD_cons_succ]
                refine wpQuiet_nil ?_
                repeat (go_big_quiet_step (fail))
                refine wpQuiet_nil (wpQuiet_nil ?_)
                rintro _ ⟨nd, rfl⟩
                simp only [wpAl]
                go_wp2_with fail
                go_meet
                rw [unhide HRC2]
                have hOf : Only (fun q => q = p.gw) wy ((wa.drewN nd).setCell ⟨p.gw, j, none⟩ (.int .i64 xc)) := only_put ((Only.of_below (unhide HBA) (fun x h1 h2 => by omega)).drewN _) _ _
                have h := (unhide HXa).only (D := fun _ => False) ((Only.refl _ wa).drewN nd) (fun _ _ e => e)
                have hxf : BrAt ((wa.drewN nd).setCell ⟨p.gw, j, none⟩ (.int .i64 xc)) w.heap.size nb p most ticks { s with wants := s.wants.set j xc } := ⟨h.blk.far h.ng.1 _, h.rw_.set_ (unhide HLW) _, Blk.far h.rg (Ne.symm h.ne.1) _, Blk.far h.rs (Ne.symm h.ne.2.1) _, Blk.far h.rq (Ne.symm h.ne.2.2.1) _, h.cap, h.low, h.ne⟩
                refine ⟨p, none, 0, 0, rfl, (unhide HPG).2.1, hxf, (unhide HK1).only hOf (fun e => by omega), World.ownsRow_nil _ _ _ _, (unhide HOUy).only hOf (fun q hq e => own_blk_ne (unhide HOUy).own (unhide HXy).rw_ (by decide) (by rw [hq, e])) (fun y hy q hq e => (unhide HPG).2.2 y hy q hq (.inr (.inl e))), fun x hx q hq => ?_, (unhide HBY).trans (hOf.to_below (fun x hx _ e => by have := (unhide HPG).2.1 p.gw (.inr (.inl rfl)); omega) (unhide HBY).size)⟩
                rcases List.mem_append.1 hx with h1 | h1
                · exact (unhide HPG).2.2 x h1 q hq
                · rw [List.mem_singleton] at h1
                  subst h1
                  cases hq
              · have HRC2 := hide (show callR most ticks nb s ⟨2, j, xc⟩ = (s, ⟨0, [], -1⟩) by rw [unhide HRC, if_neg a5])
                go_wp2_with fail
                go_quiet (fail)
                obtain ⟨na, rfl⟩ : ∃ m, m = nq := ⟨_, rfl⟩
                go_wp2_with fail
                go_quiet (fail)
                go_wp2_with fail
                go_meet
                rw [unhide HRC2]
                have hOf : Below wy.heap.size wy ((wy.drewN na).drewN nq) := below_drewN (below_drewN (Below.refl _ _) _) _
                refine ⟨p, none, 0, 0, rfl, (unhide HPG).2.1, (unhide HXy).calm hOf, (unhide HK1).below hOf (unhide HK1).lt, World.ownsRow_nil _ _ _ _, (unhide HOUy).calm hOf, fun x hx q hq => ?_, (unhide HBY).trans (hOf.mono (unhide HBY).size)⟩
                rcases List.mem_append.1 hx with h1 | h1
                · exact (unhide HPG).2.2 x h1 q hq
                · rw [List.mem_singleton] at h1
                  subst h1
                  cases hq
        · have e2 : (xk == 2) = false := by simpa using h2
          have HF := hide (fun n => unhide CODE 3 (wy.drewN n) (below_drewN (Below.refl _ _) n) (by rw [unhide HR0, if_neg (fun e : xk = 2 ∧ _ => h2 e.1), if_neg h2]))
          clear h2
          go_wp2_with fail
          go_quiet (fail)
          go_wp2_with fail
          go_meet
          exact unhide HF _
      case rest =>
        obtain ⟨p2, A2, n2, c2, hpg, hlow, hx2, kF, hro, hou2, hap2, hbF⟩ := unhide hcut
        generalize callR most ticks nb s ⟨xk, xw, xc⟩ = r at HSP2 HNB hx2 kF hro hap2
        obtain ⟨s2, ⟨rc, rg, rp⟩⟩ := r
        have m0 : wc.cell? ⟨b0 + 1, 0, none⟩ = some (.int .i64 rc) := kF.cell 0
        have m1 : wc.cell? ⟨b0 + 1, 1, none⟩ = some (.slice A2 n2 c2) := kF.cell 1
        have m2 : wc.cell? ⟨b0 + 1, 2, none⟩ = some (.int .i64 rp) := kF.cell 2
        have hown3 := hou2.own
        obtain ⟨A0, c0, rfl, _⟩ := own_slice hown3
        have hwc : w.heap.size ≤ wc.heap.size := hbF.size
        have HOW3 := hide hown3
        have HOU3 := hide hou2
        have HX2 := hide hx2
        have HB3 := hide hbF
        have HNW2 := hide hro
        have HPG2 := hide (And.intro hpg (And.intro hlow hap2))
        clear hcut hpg hlow hap2 hx2 kF hro hou2 hbF hown3
        go_wp2_with (first
          | (at_builtin; (refine wpList_append_new _ rfl (.tmp 165) (.tmp 167) _ rfl w.heap.size 45 i0 _ 3 40 Try.underlying40 hi hz0 hz1 hz2 rfl (by omega) (by omega) _ _ _ (unhide HOW3) rfl _ 1 _ rfl rfl rfl (by simp [Value.oneCell']) hmk hwc ?_); intro g4 cap4 w4 hg4 hown4 hbel4 hgr4 hat4))
        have HO4 := hide ((unhide HOU3).grows _ (unhide HNW2) hgr4 hown4)
        have HS4 := hide ((unhide HX2).grown (unhide HOW3) (by decide) (by decide) hgr4)
        have HB4 := hide (hbel4 _ _ (Nat.le_refl _) (unhide HB3))
        clear hown4 hbel4 hgr4 hat4 hg4
        go_roundw
        case rel => exact ⟨k + 1, outs ++ [⟨⟨rc, rg, rp⟩, A2, n2, c2⟩], p2, s2, by omega, by go_num, HO4, HS4, HPG2, HNB, by rw [List.map_append]; exact HSP2, unhide HB4⟩
        case measure => simp [intOf]; omega
    · obtain rfl : k = n := by omega
      have HF2 := hide (show bookR nb most ticks l = (outs.map (·.d), 0) by
        rw [unhide HF, unhide HSP, List.drop_of_length_le (by rw [unhide HL]; exact Nat.le_refl _)]
        simp [playBr])
      have HOU2 := hide (unhide HOU)
      obtain ⟨A0, c0, rfl, _⟩ := own_slice (unhide HOU).own
      have HB := hide hb
      clear hb HSA HPG HSP HSO
      go_wp2_with fail
      go_ret2
      rw [unhide HF2]
      exact ⟨_, outs, rfl, rfl, by rw [(unhide HOU2).len]; exact unhide HOU2, unhide HB⟩
end Go.Proofs.Ytiljallignlbgaa
