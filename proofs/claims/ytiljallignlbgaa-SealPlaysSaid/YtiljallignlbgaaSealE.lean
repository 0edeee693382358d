/- Contract of seal.Play. Conditions: none beyond what each theorem states. -/
import Derived.Test.YtiljallignlbgaaSealD
namespace Go.Proofs.Ytiljallignlbgaa
open Go.RowKit
set_option linter.unusedVariables false

theorem info_opened : (Try.prog.info? 36).map (fun i => (i.zero, i.size, i.bytes)) = some (some (.agg #[.int .i64 0, .int .i64 0, .int .i64 0, .slice none 0 0]), 4, 48) := by kernel_rfl
theorem opened_info : ∃ i, Try.prog.info? 36 = some i ∧ i.zero = some (.agg #[.int .i64 0, .int .i64 0, .int .i64 0, .slice none 0 0]) ∧ i.size = 4 ∧ i.bytes = 48 := by
  have h := info_opened
  cases hi : Try.prog.info? 36 with
  | none => rw [hi] at h; simp at h
  | some i => rw [hi] at h; simp at h; exact ⟨i, rfl, h.1, h.2.1, h.2.2⟩
/-- what a move came to, as it lies -/
structure Od where
  d : OdD
  A : Option Addr
  n : Nat
  c : Nat
def Od.cells (x : Od) : List Value := [.int .i64 x.d.code, .int .i64 x.d.id, .int .i64 x.d.size, .slice x.A x.n x.c]
theorem Od.cells_len (x : Od) : x.cells.length = 4 := rfl
def OdOwn (x : Od) (w : World) (base : Nat) : Prop := w.ownsRow base 5 1 (.slice x.A x.n x.c) x.n (x.d.data.map (.int .u8))
structure OutO (w : World) (base : Nat) (v : Value) (k : Nat) (outs : List Od) : Prop where
  len : outs.length = k
  own : w.ownsRow base 36 4 v k (outs.flatMap Od.cells)
  rows : ∀ x ∈ outs, OdOwn x w base
theorem OutO.nil (w : World) (base : Nat) : OutO w base (.slice none 0 0) 0 [] := ⟨rfl, World.ownsRow_nil _ _ _ _, fun x hx => by cases hx⟩
theorem OutO.calm {w w' : World} {base k : Nat} {v : Value} {outs : List Od} (h : OutO w base v k outs) (hb : Below w.heap.size w w') : OutO w' base v k outs :=
  ⟨h.len, own_below' h.own hb, fun x hx => own_below' (h.rows x hx) hb⟩
theorem OutO.only {w w' : World} {base k : Nat} {v : Value} {outs : List Od} {D : Nat → Prop} (h : OutO w base v k outs) (ho : Only D w w') (h1 : ∀ q, v.ownBlock = some q → ¬ D q) (h2 : ∀ x ∈ outs, ∀ q, (Value.slice x.A x.n x.c).ownBlock = some q → ¬ D q) : OutO w' base v k outs :=
  ⟨h.len, own_only h.own ho h1, fun x hx => own_only (h.rows x hx) ho (h2 x hx)⟩
theorem OutO.grows {w w' : World} {base k : Nat} {v v' : Value} {outs : List Od} (h : OutO w base v k outs) (x : Od) (hx : OdOwn x w base) (hg : w.grownBy w' v.ownBlock) (hown : w'.ownsRow base 36 4 v' (k + 1) (outs.flatMap Od.cells ++ x.cells)) : OutO w' base v' (k + 1) (outs ++ [x]) := by
  refine ⟨by rw [List.length_append, h.len]; rfl, by rw [List.flatMap_append]; simpa using hown, fun y hy => ?_⟩
  have key : ∀ y, OdOwn y w base → OdOwn y w' base := fun y hy => World.ownsRow.kept hy hg (own_own_ne hy h.own (by decide))
  rcases List.mem_append.1 hy with h1 | h1
  · exact key y (h.rows y h1)
  · rw [List.mem_singleton] at h1
    subst h1
    exact key _ hx
theorem OfAt.grown {w w' : World} {base base' g b m size n : Nat} {v v' : Value} {l : List Po} {top : Int → Int → Int} {e : TypeId} {xs : List Value} (h : OfAt w base g b v l m top) (hown : w.ownsRow base' e size v' n xs) (h1 : e ≠ 81) (h2 : 101 ≠ e) (h3 : 5 ≠ e) (hg : w.grownBy w' v'.ownBlock) : OfAt w' base g b v l m top := by
  have ho : Only (fun k => v'.ownBlock = some k) w w' := (Only.refl _ _).grown hg fun k hk _ => hk
  refine h.only ho (own_blk_ne hown h.blk h1) (own_map_ne hown h.map) (fun k hk e1 => ?_) (fun p hp k hk e1 => ?_)
  · rcases own_own_ne h.own hown h2 with h4 | h4
    · rw [h4] at hk; cases hk
    · exact h4 (by rw [hk, e1])
  · rcases own_own_ne (h.rows p hp) hown h3 with h4 | h4
    · rw [h4] at hk; cases hk
    · exact h4 (by rw [hk, e1])
theorem moveS_len (s : SlS) (x : LtD) : (moveS s x).1.l.length ≤ s.l.length + 1 := by
  unfold moveS
  split
  · simp
  split
  · simp
  split
  · split <;> simp
  split
  · simp
  · simp

def playM (s : SlS) : List LtD → List OdD
  | [] => []
  | x :: l => (moveS s x).2 :: playM (moveS s x).1 l
theorem playM_drop (s : SlS) (l : List LtD) (k : Nat) (x : LtD) (h : l[k]? = some x) : playM s (l.drop k) = (moveS s x).2 :: playM (moveS s x).1 (l.drop (k + 1)) := by rw [drop_cons l k x h]; rfl
def SlS.new : SlS := ⟨[], fun _ _ => 0⟩
def sealP (l : List LtD) : List OdD × Int := if 300 < l.length then ([], 1) else (playM SlS.new l, 0)
def OpensPost (base : Nat) (r : List OdD × Int) (e : Ending) (w w' : World) : Prop :=
  ∃ v rows, e = .returned (.tuple #[v, .int .i64 r.2]) ∧ rows.map (·.d) = r.1 ∧ OutO w' base v rows.length rows ∧ Below base w w'
theorem opensPost_nil {w w' : World} {base : Nat} {c : Int} (h : Below base w w') : OpensPost base ([], c) (.returned (.tuple #[.slice none 0 0, .int .i64 c])) w w' := ⟨_, [], rfl, rfl, OutO.nil _ _, h⟩

/-- an office without letters -/
theorem officeNew_any (w : World) (base : Nat) : Calls Try.prog 16 #[] w fun e w' => ∃ g b, e = .returned (.pointer (some ⟨g, 0, none⟩)) ∧ OfAt w' base g b (.slice none 0 0) [] 0 (fun _ _ => 0) ∧ Below w.heap.size w w' ∧ w.heap.size ≤ g ∧ w.heap.size ≤ b := by
  have hmm := @run_makeMap Try.prog
  go_enter Try.func16, Try.ntmps16
  go_wp2_with fail
  go_ret
  have hb1 : Below w.heap.size w (w.alloc (.map #[] 0)) := (Below.refl _ _).alloc (Nat.le_refl _) _
  have hk : Blk ((w.alloc (.map #[] 0)).alloc (.cells #[.slice none 0 0, .map (some w.heap.size)] 81)) (w.heap.size + 1) 81 #[.slice none 0 0, .map (some w.heap.size)] := by
    have h := Blk.new (w.alloc (.map #[] 0)) 81 #[.slice none 0 0, .map (some w.heap.size)]
    simpa using h
  exact ⟨w.heap.size + 1, w.heap.size, rfl, ⟨hk, World.ownsRow_nil _ _ _ _, (fun p hp => by cases hp), (WayMap.made w).below ((Below.refl _ _).alloc (Nat.le_refl _) _), (fun p hp => by cases hp)⟩, hb1.alloc (by simp) _, Nat.le_succ _, Nat.le_refl _⟩

set_option maxRecDepth 100000 in
set_option maxHeartbeats 2000000 in
theorem sealPlay_any (A : Option Addr) (n c : Nat) (l : List Lt) (B : Nat) (w : World) (hl : l.length = n) (hnc : n ≤ c) (hcm : c ≤ maxLen) (hr : Reads w B 5 A n (l.flatMap Lt.cells)) (hok : ∀ x ∈ l, x.ok w B) (hB : B ≤ w.heap.size) :
    Calls Try.prog 8 #[.slice A n c] w fun e w' => OpensPost w.heap.size (sealP (l.map (·.d))) e w w' := by
  obtain ⟨i0, hi, hz0, hz1, hz2⟩ := opened_info
  have HR := hide (hr.more hB)
  have HK := hide (fun x (hx : x ∈ l) => (hok x hx).more hB)
  have HL := hide hl
  have hm : n ≤ 9223372036854775807 := by unfold maxLen at hcm; omega
  clear hr hl hok
  by_cases h3 : 300 < n
  · have HF := hide (show sealP (l.map (·.d)) = ([], 1) by unfold sealP; rw [if_pos (by rw [List.length_map, unhide HL]; exact h3)])
    have h3' : (300 : Int) < (n : Int) := by omega
    go_enter Try.func8, Try.ntmps8
    go_wp2_with fail
    go_ret2
    rw [unhide HF]
    exact opensPost_nil (Below.refl _ _)
  have HF := hide (show sealP (l.map (·.d)) = (playM SlS.new (l.map (·.d)), 0) by unfold sealP; rw [if_neg (by rw [List.length_map, unhide HL]; exact h3)])
  have h3' : (n : Int) ≤ 300 := by omega
  have hn3 : n ≤ 300 := by omega
  have hmb : ∀ k, k < n → (k + 1) * 48 ≤ 140737488355328 := fun k hk => by omega
  have HMB := hide hmb
  clear h3 hmb
  have HNW := hide (officeNew_any w w.heap.size)
  go_enter Try.func8, Try.ntmps8
  go_wp2_with fail
  refine (unhide HNW).mono ?_
  rintro _ w1 ⟨g, b, rfl, hof, hb1, hgw, hbw⟩
  have HOF := hide hof
  have HB1 := hide hb1
  clear hof hb1
  go_wp2_with fail
  go_loopw [5, 14] (fun v i wr => ∃ (k : Nat) (outs : List Od) (po : List Po) (vs : Value) (top : Int → Int → Int), k ≤ n ∧ i = .int .i64 k ∧ Hid (OutO wr w.heap.size v k outs) ∧ Hid (OfAt wr w.heap.size g b vs po k top) ∧ Hid (po.length ≤ k ∧ ∀ p ∈ po, p.n ≤ 1000000) ∧ Hid (playM SlS.new (l.map (·.d)) = outs.map (·.d) ++ playM ⟨po.map (·.d), top⟩ ((l.map (·.d)).drop k)) ∧ Below w.heap.size w wr) (fun _ i _ => n - (intOf i).toNat)
  case atStart => exact ⟨0, [], [], _, _, Nat.zero_le _, rfl, OutO.nil _ _, HOF, ⟨Nat.le_refl _, fun p hp => by cases hp⟩, rfl, unhide HB1⟩
  case round =>
    obtain ⟨k, outs, po, vs, top, hk, rfl, HOU, HSA, HPN, HSP, hb⟩ := hrel
    by_cases hlt : k < n
    · obtain ⟨bx, p, x, rfl, _, hx, hcx⟩ := at_row Lt.cells_len (by omega) ((unhide HR).below hb) hlt (unhide HL)
      have e0 := hcx 0 _ rfl
      have e1 := hcx 1 _ rfl
      have e2 := hcx 2 _ rfl
      have e3 := hcx 3 _ rfl
      have e4 := hcx 4 _ rfl
      simp only [Nat.add_zero] at e0
      have hkn : (k : Int) < (n : Int) := by omega
      have hbs := hb.size
      have hxd : (l.map (·.d))[k]? = some x.d := by rw [List.getElem?_map, hx]; rfl
      have hxo := (unhide HK x (List.mem_of_getElem? hx)).below hb
      obtain ⟨w2, hw2⟩ : ∃ w2, w2 = wr.alloc (.cells x.cells.toArray 61) := ⟨_, rfl⟩
      have hb2 : Below wr.heap.size wr w2 := by rw [hw2]; exact (Below.refl _ _).alloc (Nat.le_refl _) _
      have hs2 := (unhide HSA).calm hb2
      have hpn := unhide HPN
      have HMV := hide (officeMove_any w.heap.size g b k vs po top w2 x w.heap.size hs2 (by omega) (by unfold maxLen; omega) (Nat.le_trans hbs hb2.size) hpn.2 (hxo.below (hb2.mono hbs)) (Nat.le_trans hbs hb2.size))
      have HSP2 := hide (show playM SlS.new (l.map (·.d)) = (outs.map (·.d) ++ [(moveS ⟨po.map (·.d), top⟩ x.d).2]) ++ playM (moveS ⟨po.map (·.d), top⟩ x.d).1 ((l.map (·.d)).drop (k + 1)) by rw [unhide HSP, playM_drop _ _ k x.d hxd]; simp)
      have HML := hide (show (moveS ⟨po.map (·.d), top⟩ x.d).1.l.length ≤ k + 1 by have := moveS_len ⟨po.map (·.d), top⟩ x.d; rw [List.length_map] at this; omega)
      have HS2 := hide hs2
      have HOU2 := hide ((unhide HOU).calm hb2)
      have HB2 := hide (hb.trans (hb2.mono hbs))
      obtain ⟨r, hr⟩ : ∃ r, r = moveS ⟨po.map (·.d), top⟩ x.d := ⟨_, rfl⟩
      rw [← hr] at HMV HSP2 HML
      obtain ⟨⟨rl, rt⟩, ⟨rc, ri, rs, rd⟩⟩ := r
      clear hr
      dsimp only at HSP2 HML
      obtain ⟨⟨xk, xf, xt, xi, xd⟩, xA, xn, xc⟩ := x
      have HW2 : Hid (w2 = wr.alloc (.cells #[.int .i64 xk, .int .i64 xf, .int .i64 xt, .int .i64 xi, .slice xA xn xc] 61)) := hw2
      unfold Lt.val at HMV
      dsimp only at e0 e1 e2 e3 e4 HMV
      have hmk := unhide HMB k hlt
      clear hx hcx hb hw2 hb2 hs2 hxd hxo hpn HOU HSA HPN HSP
      go_wp2_with fail
      rw [← unhide HW2]
      refine (unhide HMV).mono ?_
      rintro _ w3 ⟨v3, po3, A3, n3, c3, rfl, hd3, hs3, hl3, hn3', ho3⟩
      have hou := unhide HOU2
      have hs2 := unhide HS2
      have hou3 : OutO w3 w.heap.size _ k outs := hou.only ho3 (fun q hq hc => by
        rcases hc with rfl | rfl | hc
        · exact own_blk_ne hou.own hs2.blk (by decide) hq
        · exact own_map_ne hou.own hs2.map hq
        · rcases own_own_ne hou.own hs2.own (by decide) with h1 | h1
          · rw [h1] at hq; cases hq
          · exact h1 (by rw [hq, hc])) (fun y hy q hq hc => by
        have hyo := hou.rows y hy
        rcases hc with rfl | rfl | hc
        · exact own_blk_ne hyo hs2.blk (by decide) hq
        · exact own_map_ne hyo hs2.map hq
        · rcases own_own_ne hyo hs2.own (by decide) with h1 | h1
          · rw [h1] at hq; cases hq
          · exact h1 (by rw [hq, hc]))
      have hb3 : Below w.heap.size w w3 := (unhide HB2).trans (ho3.to_below (fun x hx _ hc => by
        rcases hc with rfl | rfl | hc
        · omega
        · omega
        · have := (hs2.own.lt x hc).1; omega) (unhide HB2).size)
      have hs3w : w.heap.size ≤ w3.heap.size := hb3.size
      have hown3 := hou3.own
      obtain ⟨A0, c0, rfl, _⟩ := own_slice hown3
      have hnew : OdOwn ⟨⟨rc, ri, rs, rd⟩, A3, n3, c3⟩ w3 w.heap.size := own_mono hd3 (unhide HB2).size
      have HOW3 := hide hown3
      have HOU3 := hide hou3
      have HS3 := hide hs3
      have HB3 := hide hb3
      have HNW := hide hnew
      have HL3 := hide hl3
      have HN3 := hide hn3'
      clear hs3 ho3 hown3 hb3 hou hs2 hou3 hnew hl3 hn3' hd3 e0 e1 e2 e3 e4
      go_wp2_with (first
        | (at_builtin; (refine wpList_append_new _ rfl (.tmp 18) (.tmp 22) _ rfl w.heap.size 36 i0 _ 4 48 Try.underlying31 hi hz0 hz1 hz2 rfl (by omega) (by omega) _ _ _ (unhide HOW3) rfl _ 1 _ rfl rfl rfl (by simp [Value.oneCell']) hmk hs3w ?_); intro g4 cap4 w4 hg4 hown4 hbel4 hgr4 hat4))
      have HO4 := hide ((unhide HOU3).grows _ (unhide HNW) hgr4 hown4)
      have HS4 := hide ((unhide HS3).grown (unhide HOW3) (by decide) (by decide) (by decide) hgr4)
      have HB4 := hide (hbel4 _ _ (Nat.le_refl _) (unhide HB3))
      clear hown4 hbel4 hgr4 hat4 hg4
      go_roundw
      case rel =>
        have h3 := unhide HL3
        exact ⟨k + 1, outs ++ [⟨⟨rc, ri, rs, rd⟩, A3, n3, c3⟩], po3, v3, rt, by omega, by go_num, HO4, HS4, ⟨by have := unhide HML; rw [← h3, List.length_map] at this; exact this, unhide HN3⟩, by rw [List.map_append, h3]; exact HSP2, unhide HB4⟩
      case measure => simp [intOf]; omega
    · obtain rfl : k = n := by omega
      have HF2 := hide (show sealP (l.map (·.d)) = (outs.map (·.d), 0) by
        rw [unhide HF, unhide HSP, List.drop_of_length_le (by rw [List.length_map, unhide HL]; exact Nat.le_refl _)]
        simp [playM])
      have HOU2 := hide (unhide HOU)
      obtain ⟨A0, c0, rfl, _⟩ := own_slice (unhide HOU).own
      have HB := hide hb
      clear hb HSA HPN HSP
      go_wp2_with fail
      go_ret2
      rw [unhide HF2]
      exact ⟨_, outs, rfl, rfl, by rw [(unhide HOU2).len]; exact unhide HOU2, unhide HB⟩
end Go.Proofs.Ytiljallignlbgaa
