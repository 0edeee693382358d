/- Contracts and plain facts, set together by program out of smaller texts. Conditions: none beyond what each theorem states. -/
import Derived.Test.YtbolcebmbpepdaaDoorM34
import Derived.Test.YtbolcebmbpepdaaDoorM33
import Derived.Test.YtbolcebmbpepdaaDoorM02
namespace Go.Proofs.YtbolcebmbpepdaaDoor
set_option linter.unusedVariables false
section
open Go.RowKit
/-- a config of the call's own: its rows lie in blocks g and h -/
structure CfgNew (w' : World) (B : Nat) (c : Cfg) (g h : Nat) (ls : List Int) (ticks minted most : Int) : Prop where
  br : c.br = 4
  la : c.la = ⟨some ⟨g, 0, none⟩, 3, 3, ls⟩
  tk : c.tk = 1 + ticks % 4
  mi : c.mi = ⟨some ⟨h, 0, none⟩, 2, 2, [minted % 60, wrap64 (minted.tdiv 60) % 60]⟩
  cap : c.cap = most % 20
  rg : IRow w' g ls []
  rh : IRow w' h [minted % 60, wrap64 (minted.tdiv 60) % 60] []
  low : B ≤ g ∧ B ≤ h
  ne : g ≠ h
set_option maxRecDepth 100000 in
theorem configOf_any (A : Option Addr) (n cc : Nat) (zs : List Int) (ticks minted most : Int) (B : Nat) (w : World) (hl : zs.length = n) (hm : n ≤ maxLen) (hr : Reads w B 1 A n (zs.map (.int .i64))) (hB : B ≤ w.heap.size) :
    Calls Tryd.prog 4 #[.slice A n cc, .int .i64 ticks, .int .i64 minted, .int .i64 most] w fun e w' => ∃ c g h, e = .returned c.val ∧ CfgNew w' w.heap.size c g h (labelsP zs) ticks minted most ∧ Below w.heap.size w w' := by
  obtain ⟨wx, hwx⟩ : ∃ wx, wx = w.alloc (.cells #[.int .i64 0, .slice none 0 0, .int .i64 0, .slice none 0 0, .int .i64 0] 25) := ⟨_, rfl⟩
  obtain ⟨q, hq⟩ : ∃ q, q = w.heap.size := ⟨_, rfl⟩
  have hbx : Below w.heap.size w wx := by rw [hwx]; exact (Below.refl _ _).alloc (Nat.le_refl _) _
  have kx : Blk wx q 25 #[.int .i64 0, .slice none 0 0, .int .i64 0, .slice none 0 0, .int .i64 0] := by rw [hwx, hq]; exact Blk.new _ _ _
  have HLO := hide (labelsOf_any A n cc zs B wx hl hm (hr.below (hbx.mono hB)) (Nat.le_trans hB hbx.size))
  have HP4 := hide (fun a W => picked_any a 4 W (by omega))
  have HP60 := hide (fun a W => picked_any a 60 W (by omega))
  have HP20 := hide (fun a W => picked_any a 20 W (by omega))
  have hb4 : 0 ≤ ticks % 4 ∧ ticks % 4 < 4 := by omega
  have HQ := hide hq
  have HBX := hide hbx
  have HKX := hide kx
  have HWX := hide hwx
  clear hwx hq hbx kx hr hl hB hm
  go_enter Tryd.func4, Tryd.ntmps4
  go_upto_region 1 with fail
  rw [← unhide HWX, ← unhide HQ]
  go_wp2_with fail
  refine (unhide HLO).mono ?_
  rintro _ w2 ⟨g, rfl, hrg, hg, hb2⟩
  have HRG := hide hrg
  have HGL := hide hg
  have HB2 := hide ((unhide HBX).trans (hb2.mono (unhide HBX).size))
  have HK2 := hide ((unhide HKX).below hb2 (unhide HKX).lt)
  clear hrg hg hb2
  go_wp2_with fail
  refine (unhide HP4 _ _).mono ?_
  rintro _ _ ⟨rfl, rfl⟩
  go_wp2_with fail
  refine (unhide HP60 _ _).mono ?_
  rintro _ _ ⟨rfl, rfl⟩
  go_wp2_with fail
  refine (unhide HP60 _ _).mono ?_
  rintro _ _ ⟨rfl, rfl⟩
  obtain ⟨w3, hw3⟩ : ∃ w3, w3 = w2.alloc (.cells #[.int .i64 (minted % 60), .int .i64 (wrap64 (minted.tdiv 60) % 60)] 3) := ⟨_, rfl⟩
  obtain ⟨h, hh⟩ : ∃ h, h = w2.heap.size := ⟨_, rfl⟩
  have hb3 : Below w2.heap.size w2 w3 := by rw [hw3]; exact (Below.refl _ _).alloc (Nat.le_refl _) _
  have k3 : IRow w3 h [minted % 60, wrap64 (minted.tdiv 60) % 60] [] := by rw [hw3, hh]; exact Blk.new _ _ _
  have hrg3 := Blk.below (unhide HRG) hb3 (Blk.lt (unhide HRG))
  have hne : g ≠ h := by have := Blk.lt (unhide HRG); omega
  have hhl : w.heap.size ≤ h := by rw [hh]; exact (unhide HB2).size
  have k3q := (unhide HK2).below hb3 (unhide HK2).lt
  have H3 := hide (And.intro k3 (And.intro hrg3 (And.intro hne hhl)))
  have HB3 := hide ((unhide HB2).trans (hb3.mono (unhide HB2).size))
  have HK3 := hide k3q
  have HW3 := hide hw3
  have HHH := hide hh
  clear hw3 hh hb3 k3 hrg3 hne hhl k3q
  go_wp2_with fail
  rw [← unhide HW3, ← unhide HHH]
  refine (unhide HP20 _ _).mono ?_
  rintro _ _ ⟨rfl, rfl⟩
  have f0 := (unhide HK3).frozen 0
  have f1 := (unhide HK3).frozen 1
  have f2 := (unhide HK3).frozen 2
  have f3 := (unhide HK3).frozen 3
  have f4 := (unhide HK3).frozen 4
  have c0 := (unhide HK3).cell 0
  have c1 := (unhide HK3).cell 1
  have c2 := (unhide HK3).cell 2
  have c3 := (unhide HK3).cell 3
  have c4 := (unhide HK3).cell 4
  go_wp2_with fail
  have k9 := (((((unhide HK3).set_ 0 (.int .i64 4)).set_ 1 (.slice (some ⟨g, 0, none⟩) 3 3)).set_ 2 (.int .i64 (1 + ticks % 4))).set_ 3 (.slice (some ⟨h, 0, none⟩) 2 2)).set_ 4 (.int .i64 (most % 20))
  have ho : Only (fun k => k = q) w3 _ := only_put (only_put (only_put (only_put (only_put (Only.refl _ w3) 0 (.int .i64 4)) 1 (.slice (some ⟨g, 0, none⟩) 3 3)) 2 (.int .i64 (1 + ticks % 4))) 3 (.slice (some ⟨h, 0, none⟩) 2 2)) 4 (.int .i64 (most % 20))
  have HO := hide ho
  clear c0 c1 c2 c3 c4 f0 f1 f2 f3 f4 ho
  have d0 := k9.cell 0
  have d1 := k9.cell 1
  have d2 := k9.cell 2
  have d3 := k9.cell 3
  have d4 := k9.cell 4
  have hf : ∀ {p : Nat} {zs : List Int}, IRow w3 p zs [] → IRow _ p zs [] := fun hr => Blk.only hr (unhide HO) (fun e => Blk.ne_ hr (unhide HK3) (by decide) e)
  obtain ⟨r1, r2, r3, r4⟩ := unhide H3
  refine bodyPost_ret (v := .agg #[.int .i64 4, .slice (some ⟨g, 0, none⟩) 3 3, .int .i64 (1 + ticks % 4), .slice (some ⟨h, 0, none⟩) 2 2, .int .i64 (most % 20)]) (by simp [results, Tryd.results4, go_sem, d0, d1, d2, d3, d4]) rfl
    ⟨⟨4, ⟨some ⟨g, 0, none⟩, 3, 3, labelsP zs⟩, 1 + ticks % 4, ⟨some ⟨h, 0, none⟩, 2, 2, [minted % 60, wrap64 (minted.tdiv 60) % 60]⟩, most % 20⟩, g, h, rfl, ⟨rfl, rfl, rfl, rfl, rfl, hf r2, hf r1, ⟨Nat.le_trans (unhide HBX).size (unhide HGL), r4⟩, r3⟩, ?_⟩
  exact (unhide HB3).trans ((unhide HO).to_below (fun x hx _ e => by have := unhide HQ; omega) (unhide HB3).size)
theorem CfgNew.ok {w' : World} {B : Nat} {c : Cfg} {g h : Nat} {ls : List Int} {ticks minted most : Int} (hc : CfgNew w' B c g h ls ticks minted most) (hl : ls.length = 3) (hb : ∀ z ∈ ls, 0 ≤ z ∧ z < 16) : c.ok w' w'.heap.size ∧ configP c = true := by
  obtain ⟨h1, h2, h3, h4, h5, h6, h7, _, _⟩ := hc
  refine ⟨⟨?_, ?_, fun z hz => ?_⟩, ?_⟩
  · rw [h2]
    exact ⟨hl, Nat.le_refl _, by dsimp only; unfold maxLen; omega, h6.reads hl⟩
  · rw [h4]
    exact ⟨rfl, Nat.le_refl _, by dsimp only; unfold maxLen; omega, h7.reads rfl⟩
  · rw [h2] at hz
    have := hb z hz
    exact WalkArith.wf_i64 (by omega)
  · unfold configP inB
    rw [h1, h2, h3, h4, h5]
    have e1 : (ls.any (badLab 4)) = false := by
      rw [List.any_eq_false]
      intro z hz
      have := hb z hz
      unfold badLab
      simp
      omega
    simp only [Bool.and_eq_true, decide_eq_true_eq, Bool.not_eq_true']
    refine ⟨⟨⟨⟨⟨⟨⟨by omega, by omega⟩, by omega⟩, by omega, by omega⟩, by simp, by simp⟩, by omega, by omega⟩, e1⟩, ?_⟩
    rw [List.any_eq_false]
    intro z hz
    have hb2 : 0 ≤ z ∧ z < 60 := by
      simp only [List.mem_cons, List.not_mem_nil, or_false] at hz
      rcases hz with rfl | rfl <;> omega
    unfold badN
    simp
    omega
def stpTick : StpI := ⟨9, 0, 0, 0, 0, 0, 0, 0⟩
def stpDel (id : Int) : StpI := ⟨10, 0, 0, 0, 0, id, 0, 0⟩
def framesN : List StpI → Nat
  | [] => 0
  | s :: l => (if s.kind = 9 then 20 else 0) + framesN l
theorem framesN_le : ∀ l : List StpI, framesN l ≤ 20 * l.length
  | [] => Nat.le_refl _
  | s :: l => by have := framesN_le l; rw [framesN, List.length_cons]; split <;> omega
theorem framesN_append : ∀ a b : List StpI, framesN (a ++ b) = framesN a + framesN b
  | [], b => by simp [framesN]
  | s :: a, b => by rw [List.cons_append, framesN, framesN, framesN_append a b]; omega
def fullTo (l : List StpI) (k : Nat) : List StpI := l ++ stpTick :: (List.range k).map fun i : Nat => stpDel ((framesN l + i : Nat) : Int)
def fullP (l : List StpI) : List StpI := fullTo l 20
theorem fullTo_len (l : List StpI) (k : Nat) : (fullTo l k).length = l.length + 1 + k := by simp [fullTo]; omega
theorem fullTo_succ (l : List StpI) (k : Nat) : fullTo l (k + 1) = fullTo l k ++ [stpDel ((framesN l + k : Nat) : Int)] := by
  unfold fullTo
  rw [List.range_succ, List.map_append, List.map_singleton, List.append_assoc, List.cons_append]
/-- steps of the call's own -/
def StpOwn (w : World) (base : Nat) (v : Value) (l : List StpI) : Prop := w.ownsRow base 32 8 v l.length (l.flatMap StpI.cells)
theorem below_of_none' {w w' : World} {v : Value} (h : w.grownBy w' v.ownBlock) (hv : v.ownBlock = none := by rfl) : Below w.heap.size w w' := by
  rw [hv] at h
  exact ⟨h.os, h.tape, h.output, h.size, fun k hk => h.block k hk (by simp)⟩
theorem step_info : ∃ i, Tryd.prog.info? 32 = some i ∧ i.zero = some (.agg #[.int .i64 0, .int .i64 0, .int .i64 0, .int .i64 0, .int .i64 0, .int .i64 0, .int .i64 0, .int .i64 0]) ∧ i.size = 8 ∧ i.bytes = 64 := info_of (by kernel_rfl)
theorem frames_any (A : Option Addr) (n cc : Nat) (ss : List StpI) (B : Nat) (w : World) (hl : ss.length = n) (hm : n ≤ 1000000) (hr : Reads w B 8 A n (ss.flatMap StpI.cells)) :
    Calls Tryd.prog 10 #[.slice A n cc] w fun e w' => e = .returned (.int .i64 (framesN ss)) ∧ w = w' := by
  have HR := hide hr
  have HL := hide hl
  clear hr hl
  go_enter Tryd.func10, Tryd.ntmps10
  go_wp2_with fail
  go_loopw [3, 4] (fun v i wr => ∃ k : Nat, k ≤ n ∧ i = .int .i64 k ∧ v = .int .i64 (framesN (ss.take k)) ∧ wr = w) (fun _ i _ => n - (intOf i).toNat)
  case atStart => exact ⟨0, Nat.zero_le _, rfl, rfl, rfl⟩
  case round =>
    obtain ⟨k, hk, rfl, rfl, rfl⟩ := hrel
    by_cases hlt : k < n
    · have hlt' : (k : Int) < (n : Int) := by omega
      obtain ⟨bt, ot, s, rfl, hbt, hs, hct⟩ := at_row StpI.cells_len (by omega) (unhide HR) hlt (unhide HL)
      have z0 : wr.cell? ⟨bt, ot + k * 8, none⟩ = some (.int .i64 s.kind) := hct 0 _ rfl
      have hfr := framesN_append (ss.take k) [s]
      rw [← take_snoc ss k s hs] at hfr
      have hle := framesN_le (ss.take k)
      rw [List.length_take] at hle
      obtain ⟨f, hf⟩ : ∃ f, f = framesN (ss.take k) := ⟨_, rfl⟩
      rw [← hf] at hfr hle ⊢
      have hfb : f ≤ 20000000 := by omega
      by_cases h9 : s.kind = 9
      · have h9b : (s.kind == 9) = true := by simpa using h9
        have HFR := hide (show framesN (ss.take (k + 1)) = f + 20 by rw [hfr]; simp [framesN, h9])
        clear hfr hle hf hs hct h9
        go_wp2_with fail
        go_roundw
        case rel => exact ⟨k + 1, by omega, by go_num, by rw [unhide HFR]; go_num, trivial⟩
        case measure => simp [intOf]; omega
      · have h9b : (s.kind == 9) = false := by simpa using h9
        have HFR := hide (show framesN (ss.take (k + 1)) = f by rw [hfr]; simp [framesN, h9])
        clear hfr hle hf hs hct h9
        go_wp2_with fail
        go_roundw
        case rel => exact ⟨k + 1, by omega, by go_num, by rw [unhide HFR], trivial⟩
        case measure => simp [intOf]; omega
    · obtain rfl : k = n := by omega
      have HF := hide (show ss.take k = ss from List.take_of_length_le (by rw [unhide HL]; exact Nat.le_refl _))
      go_wp2_with fail
      go_ret
      exact ⟨ret_int (by rw [unhide HF]), rfl⟩
set_option maxRecDepth 100000 in
set_option maxHeartbeats 1000000 in
theorem full_any (A : Option Addr) (n cc : Nat) (ss : List StpI) (B : Nat) (w : World) (hl : ss.length = n) (hm : n ≤ 1000) (hr : Reads w B 8 A n (ss.flatMap StpI.cells)) (hB : B ≤ w.heap.size) :
    Calls Tryd.prog 6 #[.slice A n cc] w fun e w' => ∃ v, e = .returned v ∧ StpOwn w' w.heap.size v (fullP ss) ∧ Below w.heap.size w w' := by
  obtain ⟨it, hit, ht0, ht1, ht2⟩ := step_info
  have HFR := hide (frames_any A n cc ss B w hl (by omega) hr)
  have hfl := framesN_le ss
  have h1c : ∀ u ∈ ss.flatMap StpI.cells, u.oneCell' = true := fun u hu => by
    obtain ⟨s, _, hs⟩ := List.mem_flatMap.1 hu
    unfold StpI.cells at hs
    simp at hs
    rcases hs with rfl | rfl | rfl | rfl | rfl | rfl | rfl | rfl <;> rfl
  have HR := hide (hr.more hB)
  have HL := hide hl
  have H1C := hide h1c
  obtain ⟨f, hf⟩ : ∃ f, f = framesN ss := ⟨_, rfl⟩
  rw [← hf] at HFR hfl
  have hfb : f ≤ 20000 := by omega
  have HF := hide hf
  clear hr hl h1c hf hfl
  go_enter Tryd.func6, Tryd.ntmps6
  go_wp2_with fail
  refine (unhide HFR).mono ?_
  rintro _ _ ⟨rfl, rfl⟩
  have HNIL := hide (World.ownsRow_nil w w.heap.size 32 8)
  have hn63 : 0 + n ≤ maxLen := by unfold maxLen; omega
  have hnb : (0 + n) * 64 ≤ 140737488355328 := by omega
  have HN63 := hide hn63
  have HNB := hide hnb
  clear hn63 hnb
  go_wp2_with (first
    | (at_builtin; (refine wpList_append_any _ rfl (.const (.slice none 0 0)) (.tmp 8) _ rfl w.heap.size 32 it _ 8 64 Tryd.underlying28 hit ht0 ht1 ht2 rfl (by omega) (.slice none 0 0) 0 _ rfl (unhide HNIL) w.heap.size A n cc (ss.flatMap StpI.cells) rfl (unhide HR) (unhide H1C) (unhide HN63) (unhide HNB) (Nat.le_refl _) ?_); intro v2 w2 hown2 hgr2 hat2
       obtain ⟨A2, c2, hv2, _⟩ := own_slice hown2
       subst hv2
       rw [Nat.zero_add] at hown2
       have HB2 := hide (show Below w.heap.size w w2 from below_of_none' hgr2)
       have HW2 := hide hown2
       have HMQ := hide (show (n + 1) * 64 ≤ 140737488355328 by omega)
       have hsz2 := hgr2.size
       clear hgr2 hat2 hown2)
    | (at_builtin; (refine wpList_append_new w2 rfl (.tmp 9) (.tmp 11) _ rfl w.heap.size 32 it _ 8 64 Tryd.underlying28 hit ht0 ht1 ht2 rfl (by omega) (by omega) _ n _ (unhide HW2) rfl _ 1 _ rfl rfl rfl (by simp [Value.oneCell']) (unhide HMQ) hsz2 ?_); intro g4 cap4 w4 hg4 hown4 hbel4 hgr4 hat4
       have HB4 := hide (hbel4 w.heap.size w (Nat.le_refl _) (unhide HB2))
       have HS4 := hide (show StpOwn w4 w.heap.size (.slice (some ⟨g4, 0, none⟩) (n + 1) cap4) (fullTo ss 0) by
         unfold StpOwn
         rw [fullTo_len, unhide HL, Nat.add_zero]
         have e : (fullTo ss 0).flatMap StpI.cells = [] ++ ss.flatMap StpI.cells ++ stpTick.cells := by
           show (ss ++ [stpTick]).flatMap StpI.cells = _
           rw [List.flatMap_append]; simp
         rw [e]
         exact hown4)
       clear hg4 hown4 hbel4 hgr4 hat4 hsz2))
  go_loopw [4, 5] (fun v i wr => ∃ k : Nat, k ≤ 20 ∧ i = .int .i64 k ∧ Hid (StpOwn wr w.heap.size v (fullTo ss k)) ∧ Hid (Below w.heap.size w wr)) (fun _ i _ => 20 - (intOf i).toNat)
  case atStart => exact ⟨0, by omega, rfl, HS4, HB4⟩
  case round =>
    obtain ⟨k, hk, rfl, HS, HBE⟩ := hrel
    by_cases hlt : k < 20
    · have hlt' : decide ((k : Int) < 20) = true := by simp; omega
      obtain ⟨A5, c5, hv5, _⟩ := own_slice (unhide HS)
      subst hv5
      obtain ⟨m5, hm5⟩ : ∃ m5, m5 = (fullTo ss k).length := ⟨_, rfl⟩
      have hml : m5 ≤ 1100 := by rw [hm5, fullTo_len, unhide HL]; omega
      have hown5 := unhide HS
      unfold StpOwn at hown5
      rw [← hm5] at hown5 ⊢
      have HW5 := hide hown5
      have HM5 := hide hm5
      have HMQ5 := hide (show (m5 + 1) * 64 ≤ 140737488355328 by omega)
      have hsz5 : w.heap.size ≤ wr.heap.size := (unhide HBE).size
      clear hown5 hm5
      go_wp2_with (first
        | (at_builtin; (refine wpList_append_new wr rfl (.tmp 17) (.tmp 22) _ rfl w.heap.size 32 it _ 8 64 Tryd.underlying28 hit ht0 ht1 ht2 rfl (by omega) (by omega) _ m5 _ (unhide HW5) rfl _ 1 _ rfl rfl rfl (by simp [Value.oneCell']) (unhide HMQ5) hsz5 ?_); intro g4 cap4 w4 hg4 hown4 hbel4 hgr4 hat4
           have HB6 := hide (hbel4 w.heap.size w (Nat.le_refl _) (unhide HBE))
           have HS6 := hide (show StpOwn w4 w.heap.size (.slice (some ⟨g4, 0, none⟩) (m5 + 1) cap4) (fullTo ss (k + 1)) by
             unfold StpOwn
             rw [fullTo_succ, List.flatMap_append, List.length_append, ← unhide HM5, ← unhide HF]
             have e : ((f + k : Nat) : Int) = (f : Int) + (k : Int) := by omega
             rw [e]
             exact hown4)
           clear hg4 hown4 hbel4 hgr4 hat4 hsz5))
      go_roundw
      case rel => exact ⟨k + 1, by omega, by go_num, HS6, HB6⟩
      case measure => simp [intOf]; omega
    · obtain rfl : k = 20 := by omega
      have hlt' : decide ((20 : Int) < 20) = false := by simp
      go_wp2_with fail
      go_ret
      exact ⟨_, rfl, unhide HS, unhide HBE⟩
end
end Go.Proofs.YtbolcebmbpepdaaDoor
