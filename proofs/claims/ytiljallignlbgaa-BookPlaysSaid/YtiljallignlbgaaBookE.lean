/- Contract of book.Play. Conditions: none beyond what each theorem states. -/
import Derived.Test.YtiljallignlbgaaBookD
namespace Go.Proofs.Ytiljallignlbgaa
open Go.RowKit
set_option linter.unusedVariables false

theorem info_ruling : (Try.prog.info? 45).map (fun i => (i.zero, i.size, i.bytes)) = some (some (.agg #[.int .i64 0, .slice none 0 0, .int .i64 0]), 3, 40) := by kernel_rfl
theorem ruling_info : ∃ i, Try.prog.info? 45 = some i ∧ i.zero = some (.agg #[.int .i64 0, .slice none 0 0, .int .i64 0]) ∧ i.size = 3 ∧ i.bytes = 40 := by
  have h := info_ruling
  cases hi : Try.prog.info? 45 with
  | none => rw [hi] at h; simp at h
  | some i => rw [hi] at h; simp at h; exact ⟨i, rfl, h.1, h.2.1, h.2.2⟩
structure Rul where
  d : RulD
  A : Option Addr
  n : Nat
  c : Nat
def Rul.cells (x : Rul) : List Value := [.int .i64 x.d.code, .slice x.A x.n x.c, .int .i64 x.d.report]
theorem Rul.cells_len (x : Rul) : x.cells.length = 3 := rfl
def RulOwn (x : Rul) (w : World) (base : Nat) : Prop := w.ownsRow base 3 1 (.slice x.A x.n x.c) x.n (x.d.grants.map (.int .i64))
structure OutR (w : World) (base : Nat) (v : Value) (k : Nat) (outs : List Rul) : Prop where
  len : outs.length = k
  own : w.ownsRow base 45 3 v k (outs.flatMap Rul.cells)
  rows : ∀ x ∈ outs, RulOwn x w base
theorem OutR.nil (w : World) (base : Nat) : OutR w base (.slice none 0 0) 0 [] := ⟨rfl, World.ownsRow_nil _ _ _ _, fun x hx => by cases hx⟩
theorem OutR.calm {w w' : World} {base k : Nat} {v : Value} {outs : List Rul} (h : OutR w base v k outs) (hb : Below w.heap.size w w') : OutR w' base v k outs :=
  ⟨h.len, own_below' h.own hb, fun x hx => own_below' (h.rows x hx) hb⟩
theorem OutR.only {w w' : World} {base k : Nat} {v : Value} {outs : List Rul} {D : Nat → Prop} (h : OutR w base v k outs) (ho : Only D w w') (h1 : ∀ q, v.ownBlock = some q → ¬ D q) (h2 : ∀ x ∈ outs, ∀ q, (Value.slice x.A x.n x.c).ownBlock = some q → ¬ D q) : OutR w' base v k outs :=
  ⟨h.len, own_only h.own ho h1, fun x hx => own_only (h.rows x hx) ho (h2 x hx)⟩
theorem OutR.grows {w w' : World} {base k : Nat} {v v' : Value} {outs : List Rul} (h : OutR w base v k outs) (x : Rul) (hx : RulOwn x w base) (hg : w.grownBy w' v.ownBlock) (hown : w'.ownsRow base 45 3 v' (k + 1) (outs.flatMap Rul.cells ++ x.cells)) : OutR w' base v' (k + 1) (outs ++ [x]) := by
  refine ⟨by rw [List.length_append, h.len]; rfl, by rw [List.flatMap_append]; simpa using hown, fun y hy => ?_⟩
  have key : ∀ y, RulOwn y w base → RulOwn y w' base := fun y hy => World.ownsRow.kept hy hg (own_own_ne hy h.own (by decide))
  rcases List.mem_append.1 hy with h1 | h1
  · exact key y (h.rows y h1)
  · rw [List.mem_singleton] at h1
    subst h1
    exact key _ hx
theorem BkAt.grown {w w' : World} {base base' nb size n : Nat} {p : BkL} {most ticks : Int} {s : BkS} {v : Value} {e : TypeId} {xs : List Value} (h : BkAt w base nb p most ticks s) (hown : w.ownsRow base' e size v n xs) (h1 : e ≠ 87) (h2 : e ≠ 3) (hg : w.grownBy w' v.ownBlock) : BkAt w' base nb p most ticks s := by
  have ho : Only (fun k => v.ownBlock = some k) w w' := (Only.refl _ _).grown hg fun k hk _ => hk
  refine h.only ho fun k hk e1 => ?_
  rcases hk with rfl | rfl | rfl | rfl
  · exact own_blk_ne hown h.blk h1 e1
  · exact own_blk_ne hown h.rw_ h2 e1
  · exact own_blk_ne hown h.rg h2 e1
  · exact own_blk_ne hown h.rq h2 e1
/-- the blocks of what came out are none of the book's -/
def Apart (p : BkL) (outs : List Rul) : Prop := ∀ x ∈ outs, ∀ q, (Value.slice x.A x.n x.c).ownBlock = some q → ¬ p.has q
def bookP (br most ticks : Int) (l : List CallD) : List RulD × Int :=
  if br < 1 ∨ 8 < br ∨ most < 0 ∨ 1048576 < most ∨ ticks < 1 ∨ 8 < ticks then ([], 2) else if 300 < l.length then ([], 1) else (playB most ticks (BkS.new br.toNat) l, 0)
def RulsPost (base : Nat) (r : List RulD × Int) (e : Ending) (w w' : World) : Prop :=
  ∃ v rows, e = .returned (.tuple #[v, .int .i64 r.2]) ∧ rows.map (·.d) = r.1 ∧ OutR w' base v rows.length rows ∧ Below base w w'
theorem rulsPost_nil {w w' : World} {base : Nat} {c : Int} (h : Below base w w') : RulsPost base ([], c) (.returned (.tuple #[.slice none 0 0, .int .i64 c])) w w' := ⟨_, [], rfl, rfl, OutR.nil _ _, h⟩
theorem playB_drop (most ticks : Int) (s : BkS) (l : List CallD) (k : Nat) (x : CallD) (h : l[k]? = some x) : playB most ticks s (l.drop k) = (callB most ticks s x).2 :: playB most ticks (callB most ticks s x).1 (l.drop (k + 1)) := by rw [drop_cons l k x h]; rfl

set_option maxRecDepth 100000 in
set_option maxHeartbeats 4000000 in
theorem bookPlay_any (br most ticks : Int) (A : Option Addr) (n c : Nat) (l : List CallD) (B : Nat) (w : World) (hl : l.length = n) (hnc : n ≤ c) (hcm : c ≤ maxLen) (hr : Reads w B 3 A n (l.flatMap CallD.cells)) (hB : B ≤ w.heap.size) :
    Calls Try.prog 11 #[.int .i64 br, .int .i64 most, .int .i64 ticks, .slice A n c] w fun e w' => RulsPost w.heap.size (bookP br most ticks l) e w w' := by
  obtain ⟨i0, hi, hz0, hz1, hz2⟩ := ruling_info
  have HR := hide (hr.more hB)
  have HL := hide hl
  have hm : n ≤ 9223372036854775807 := by unfold maxLen at hcm; omega
  clear hr hl
  by_cases hbad : br < 1 ∨ 8 < br ∨ most < 0 ∨ 1048576 < most ∨ ticks < 1 ∨ 8 < ticks
  · have HF := hide (show bookP br most ticks l = ([], 2) from if_pos hbad)
    by_cases a1 : br < 1
    · clear hbad
      go_enter Try.func11, Try.ntmps11
      go_wp2_with fail
      go_ret2
      rw [unhide HF]
      exact rulsPost_nil (Below.refl _ _)
    by_cases a2 : 8 < br
    · clear hbad
      go_enter Try.func11, Try.ntmps11
      go_wp2_with fail
      go_ret2
      rw [unhide HF]
      exact rulsPost_nil (Below.refl _ _)
    by_cases a3 : most < 0
    · clear hbad
      go_enter Try.func11, Try.ntmps11
      go_wp2_with fail
      go_ret2
      rw [unhide HF]
      exact rulsPost_nil (Below.refl _ _)
    by_cases a4 : 1048576 < most
    · clear hbad
      go_enter Try.func11, Try.ntmps11
      go_wp2_with fail
      go_ret2
      rw [unhide HF]
      exact rulsPost_nil (Below.refl _ _)
    by_cases a5 : ticks < 1
    · clear hbad
      go_enter Try.func11, Try.ntmps11
      go_wp2_with fail
      go_ret2
      rw [unhide HF]
      exact rulsPost_nil (Below.refl _ _)
    · have a6 : 8 < ticks := by omega
      clear hbad
      go_enter Try.func11, Try.ntmps11
      go_wp2_with fail
      go_ret2
      rw [unhide HF]
      exact rulsPost_nil (Below.refl _ _)
  obtain ⟨nb, rfl⟩ := Int.eq_ofNat_of_zero_le (show 0 ≤ br by omega)
  have hnb : 1 ≤ nb ∧ nb ≤ 8 := by omega
  have hb1 : 1 ≤ (nb : Int) := by omega
  have hb2 : (nb : Int) ≤ 8 := by omega
  have hmo : 0 ≤ most ∧ most ≤ 1048576 := by omega
  have hti : 1 ≤ ticks ∧ ticks ≤ 8 := by omega
  by_cases h3 : 300 < n
  · have HF := hide (show bookP nb most ticks l = ([], 1) by unfold bookP; rw [if_neg hbad, if_pos (by rw [unhide HL]; exact h3)])
    have h3' : (300 : Int) < (n : Int) := by omega
    clear hbad
    go_enter Try.func11, Try.ntmps11
    go_wp2_with fail
    go_ret2
    rw [unhide HF]
    exact rulsPost_nil (Below.refl _ _)
  have HF := hide (show bookP nb most ticks l = (playB most ticks (BkS.new nb) l, 0) by unfold bookP; rw [if_neg hbad, if_neg (by rw [unhide HL]; exact h3), Int.toNat_natCast])
  have h3' : (n : Int) ≤ 300 := by omega
  have hn3 : n ≤ 300 := by omega
  have HMB := hide (show ∀ k, k < n → (k + 1) * 40 ≤ 140737488355328 from fun k hk => by omega)
  clear h3 hbad
  have HNW := hide (bookNew_any w.heap.size nb most ticks w hnb.2 (Nat.le_refl _))
  go_enter Try.func11, Try.ntmps11
  go_wp2_with fail
  refine (unhide HNW).mono ?_
  rintro _ w1 ⟨p0, rfl, hof, hb1', hlow⟩
  have HOF := hide hof
  have HB1 := hide hb1'
  have HLOW := hide hlow
  obtain ⟨g, hg⟩ : ∃ g, g = p0.g := ⟨_, rfl⟩
  rw [← hg]
  have HG := hide hg.symm
  clear hof hb1' hlow hg
  go_wp2_with fail
  go_loopw [11, 45] (fun v i wr => ∃ (k : Nat) (outs : List Rul) (p : BkL) (s : BkS), k ≤ n ∧ i = .int .i64 k ∧ Hid (OutR wr w.heap.size v k outs) ∧ Hid (BkAt wr w.heap.size nb p most ticks s) ∧ Hid (p.g = g ∧ (∀ q, p.has q → w.heap.size ≤ q) ∧ Apart p outs) ∧ Hid (s.ok nb k) ∧ Hid (playB most ticks (BkS.new nb) l = outs.map (·.d) ++ playB most ticks s (l.drop k)) ∧ Below w.heap.size w wr) (fun _ i _ => n - (intOf i).toNat)
  case atStart => exact ⟨0, [], p0, BkS.new nb, Nat.zero_le _, rfl, OutR.nil _ _, HOF, ⟨unhide HG, unhide HLOW, fun x hx => by cases hx⟩, new_okB nb, rfl, unhide HB1⟩
  case round =>
    obtain ⟨k, outs, p, s, hk, rfl, HOU, HSA, HPG, HSO, HSP, hb⟩ := hrel
    by_cases hlt : k < n
    · obtain ⟨bx, o, x, rfl, _, hx, hcx⟩ := at_row CallD.cells_len (by omega) ((unhide HR).below hb) hlt (unhide HL)
      have e0 := hcx 0 _ rfl
      have e1 := hcx 1 _ rfl
      have e2 := hcx 2 _ rfl
      simp only [Nat.add_zero] at e0
      have hkn : (k : Int) < (n : Int) := by omega
      have hbs := hb.size
      obtain ⟨w2, hw2⟩ : ∃ w2, w2 = wr.alloc (.cells x.cells.toArray 66) := ⟨_, rfl⟩
      have hb2' : Below wr.heap.size wr w2 := by rw [hw2]; exact (Below.refl _ _).alloc (Nat.le_refl _) _
      have hs2 := (unhide HSA).calm hb2'
      have HMV := hide (bookCall_any w.heap.size nb p most ticks s w2 k x hs2 (unhide HSO) (by omega) hnb hmo hti (Nat.le_trans hbs hb2'.size))
      rw [(unhide HPG).1] at HMV
      have HSP2 := hide (show playB most ticks (BkS.new nb) l = (outs.map (·.d) ++ [(callB most ticks s x).2]) ++ playB most ticks (callB most ticks s x).1 (l.drop (k + 1)) by rw [unhide HSP, playB_drop most ticks _ _ k x hx]; simp)
      have HOK := hide (call_ok (ticks := ticks) (unhide HSO) hmo x)
      have HS2 := hide hs2
      have HOU2 := hide ((unhide HOU).calm hb2')
      have HB2 := hide (hb.trans (hb2'.mono hbs))
      have HLT := hide (fun q (hq : ∃ y ∈ outs, (Value.slice y.A y.n y.c).ownBlock = some q) => show q < w2.heap.size from by
        obtain ⟨y, hy, hq⟩ := hq
        exact (((unhide HOU2).rows y hy).lt q hq).2)
      obtain ⟨r, hr⟩ : ∃ r, r = callB most ticks s x := ⟨_, rfl⟩
      rw [← hr] at HMV HSP2 HOK
      obtain ⟨s2, ⟨rc, rg, rp⟩⟩ := r
      clear hr
      dsimp only at HSP2 HOK
      obtain ⟨xk, xw, xc⟩ := x
      have HW2 : Hid (w2 = wr.alloc (.cells #[.int .i64 xk, .int .i64 xw, .int .i64 xc] 66)) := hw2
      unfold CallD.val at HMV
      dsimp only at e0 e1 e2 HMV
      have hmk := unhide HMB k hlt
      clear hx hcx hb hw2 hb2' hs2 HOU HSA HSO HSP
      go_wp2_with fail
      rw [← unhide HW2]
      refine (unhide HMV).mono ?_
      rintro _ w3 ⟨p3, A3, n3, c3, rfl, hd3, hs3, hp3, hg3, ho3, hap4⟩
      have hou := unhide HOU2
      have hs2 := unhide HS2
      have hap := (unhide HPG).2.2
      have hou3 : OutR w3 w.heap.size _ k outs := hou.only ho3 (fun q hq hc => by
        rcases hc with rfl | rfl | rfl | rfl
        · exact own_blk_ne hou.own hs2.blk (by decide) hq
        · exact own_blk_ne hou.own hs2.rw_ (by decide) hq
        · exact own_blk_ne hou.own hs2.rg (by decide) hq
        · exact own_blk_ne hou.own hs2.rq (by decide) hq) (fun y hy q hq hc => hap y hy q hq hc)
      have hb3 : Below w.heap.size w w3 := (unhide HB2).trans (ho3.to_below (fun x hx _ hc => by have := (unhide HPG).2.1 x hc; omega) (unhide HB2).size)
      have hs3w : w.heap.size ≤ w3.heap.size := hb3.size
      have hb2s := (unhide HB2).size
      have hown3 := hou3.own
      obtain ⟨A0, c0, rfl, _⟩ := own_slice hown3
      have hnew : RulOwn ⟨⟨rc, rg, rp⟩, A3, n3, c3⟩ w3 w.heap.size := own_mono hd3 hb2s
      have hap3 : Apart p3 (outs ++ [(⟨⟨rc, rg, rp⟩, A3, n3, c3⟩ : Rul)]) := fun x hx q hq hh => by
        rcases List.mem_append.1 hx with h1 | h1
        · rcases hp3 q hh with h2 | h2
          · exact hap x h1 q hq h2
          · have := unhide HLT q ⟨x, h1, hq⟩; omega
        · rw [List.mem_singleton] at h1
          subst h1
          exact hap4 q hq hh
      have HOW3 := hide hown3
      have HOU3 := hide hou3
      have HS3 := hide hs3
      have HB3 := hide hb3
      have HNW := hide hnew
      have HPG3 := hide (And.intro (hg3.trans (unhide HPG).1) (And.intro (fun q (hq : p3.has q) => show w.heap.size ≤ q from by
        rcases hp3 q hq with h | h
        · exact (unhide HPG).2.1 q h
        · omega) hap3))
      clear hs3 ho3 hown3 hb3 hou hs2 hou3 hnew hd3 hap hap3 hap4 hp3 hg3 hb2s e0 e1 e2
      go_wp2_with (first
        | (at_builtin; (refine wpList_append_new _ rfl (.tmp 49) (.tmp 53) _ rfl w.heap.size 45 i0 _ 3 40 Try.underlying40 hi hz0 hz1 hz2 rfl (by omega) (by omega) _ _ _ (unhide HOW3) rfl _ 1 _ rfl rfl rfl (by simp [Value.oneCell']) hmk hs3w ?_); intro g4 cap4 w4 hg4 hown4 hbel4 hgr4 hat4))
      have HO4 := hide ((unhide HOU3).grows _ (unhide HNW) hgr4 hown4)
      have HS4 := hide ((unhide HS3).grown (unhide HOW3) (by decide) (by decide) hgr4)
      have HB4 := hide (hbel4 _ _ (Nat.le_refl _) (unhide HB3))
      clear hown4 hbel4 hgr4 hat4 hg4
      go_roundw
      case rel => exact ⟨k + 1, outs ++ [⟨⟨rc, rg, rp⟩, A3, n3, c3⟩], p3, s2, by omega, by go_num, HO4, HS4, HPG3, HOK, by rw [List.map_append]; exact HSP2, unhide HB4⟩
      case measure => simp [intOf]; omega
    · obtain rfl : k = n := by omega
      have HF2 := hide (show bookP nb most ticks l = (outs.map (·.d), 0) by
        rw [unhide HF, unhide HSP, List.drop_of_length_le (by rw [unhide HL]; exact Nat.le_refl _)]
        simp [playB])
      have HOU2 := hide (unhide HOU)
      obtain ⟨A0, c0, rfl, _⟩ := own_slice (unhide HOU).own
      have HB := hide hb
      clear hb HSA HPG HSP HSO
      go_wp2_with fail
      go_ret2
      rw [unhide HF2]
      exact ⟨_, outs, rfl, rfl, by rw [(unhide HOU2).len]; exact unhide HOU2, unhide HB⟩
end Go.Proofs.Ytiljallignlbgaa
