/- gossip: tell. Conditions: none beyond what each theorem states. -/
import Derived.Test.YthmnfbnaeggknaaGosC
import Derived.Test.YthmnfbnaeggknaaCalmTail
namespace Go.Proofs.Ythmnfbnaeggknaa
open Go.RowKit
set_option linter.unusedVariables false

theorem belowN {B : Nat} {a w : World} (h : Below B a w) (n : Nat) : Below B a (w.drewN n) := ⟨h.os, h.tape, h.output, h.size, h.block⟩
/-- the plain stores -/
def plE (SS : List (List EnR)) : List (List (List Ent)) := SS.map fun S => S.map EnR.es
def rowP (P : List (List (List Ent))) (who i : Nat) : List Ent := ((P[who]?.getD [])[i]?).getD []
def setP (P : List (List (List Ent))) (dst i : Nat) (l : List Ent) : List (List (List Ent)) := P.set dst ((P[dst]?.getD []).set i l)
def tellP (who dst : Nat) : List Nat → Nat → List (List (List Ent)) → List (List (List Ent))
  | [], _, P => P
  | l :: ls, i, P => tellP who dst ls (i + 1) (if l.testBit who && l.testBit dst then setP P dst i (mergeP (rowP P dst i) (rowP P who i)).1 else P)
theorem rowP_pl {SS : List (List EnR)} {j i : Nat} {S : List EnR} {x : EnR} (h1 : SS[j]? = some S) (h2 : S[i]? = some x) : rowP (plE SS) j i = x.es := by
  simp [rowP, plE, h1, h2]
theorem setP_pl {SS : List (List EnR)} {j i : Nat} {S : List EnR} (r : EnR) (h1 : SS[j]? = some S) : plE (SS.set j (S.set i r)) = setP (plE SS) j i r.es := by
  simp [setP, plE, h1, List.map_set]
theorem int_at {zs : List Nat} {n k : Nat} {A : Option Addr} {w : World} {B : Nat} (hr : Reads w B 1 A n (zs.map fun v => Value.int .i64 ((v : Nat) : Int))) (hk : k < n) :
    ∃ (b o z : Nat), A = some ⟨b, o, none⟩ ∧ zs[k]? = some z ∧ w.cell? ⟨b, o + k, none⟩ = some (.int .i64 z) := by
  have e : ∀ zs : List Nat, zs.flatMap (fun v => [Value.int .i64 ((v : Nat) : Int)]) = zs.map (fun v => Value.int .i64 ((v : Nat) : Int)) := fun zs => by
    induction zs with
    | nil => rfl
    | cons a l ih => rw [List.flatMap_cons, ih]; rfl
  have hl : zs.length = n := by have := hr.1; rw [List.length_map] at this; omega
  rw [← e] at hr
  obtain ⟨b, o, z, e, _, hz, hc⟩ := at_row (cells := fun v : Nat => [Value.int .i64 ((v : Nat) : Int)]) (size := 1) (fun _ => rfl) Nat.one_pos hr hk hl
  have := hc 0 _ rfl
  simp only [Nat.mul_one, Nat.add_zero] at this
  exact ⟨b, o, z, e, hz, this⟩
set_option maxRecDepth 100000 in
set_option maxHeartbeats 2000000 in
theorem gosTell_any (base hb sb n c m mc : Nat) (A : Option Addr) (labs : List Nat) (G : List Nat) (SS : List (List EnR)) (w : World) (who dst g : Nat) (h : HouseAt w base hb sb n c m mc A labs G SS) (hwho : who < m) (hto : dst < m) (hg : G[dst]? = some g) :
    Calls Try.prog 45 #[.pointer (some ⟨hb, 0, none⟩), .int .i64 who, .int .i64 dst] w fun e w' => e = .returned (.tuple #[]) ∧ ∃ SS', HouseAt w' base hb sb n c m mc A labs G SS' ∧ plE SS' = tellP who dst labs 0 (plE SS) ∧ Only (fun k => k = g) w w' := by
  have hm60 := h.m8
  have hn8 := h.n8
  have y0 := h.c0
  have HH := hide h
  have HG := hide hg
  clear h hg
  go_enter Try.func45, Try.ntmps45
  go_wp2_with fail
  go_loopw [13] (fun j wr => ∃ (k : Nat) (SS' : List (List EnR)), k ≤ n ∧ j = .int .i64 k ∧ Hid (HouseAt wr base hb sb n c m mc A labs G SS') ∧ Hid (tellP who dst (labs.drop k) k (plE SS') = tellP who dst labs 0 (plE SS)) ∧ Hid (Only (fun k => k = g) w wr)) (fun j _ => n - (intOf j).toNat)
  case atStart => exact ⟨0, SS, Nat.zero_le _, rfl, HH, rfl, Only.refl _ _⟩
  case round =>
    obtain ⟨k, SS', hk, rfl, HR, HT, HO⟩ := hrel
    by_cases hlt : k < n
    · obtain ⟨bx, o, z, rfl, hz, hc⟩ := int_at (unhide HR).lab hlt
      have hz255 := (unhide HR).lb z (List.mem_of_getElem? hz)
      have HT2 := hide (show tellP who dst (labs.drop (k + 1)) (k + 1) (if z.testBit who && z.testBit dst then setP (plE SS') dst k (mergeP (rowP (plE SS') dst k) (rowP (plE SS') who k)).1 else plE SS') = tellP who dst labs 0 (plE SS) by have h := unhide HT; rw [drop_cons labs k z hz] at h; exact h)
      have HI1 := hide (gosIn_any z who wr hz255 (by omega))
      have HI2 := hide (gosIn_any z dst wr hz255 (by omega))
      have hkn : (k : Int) < (n : Int) := by omega
      clear HT hz
      cases hb1 : z.testBit who
      · rw [hb1] at HI1 HT2
        clear hb1
        go_wp2_with fail
        refine (unhide HI1).mono ?_
        rintro _ _ ⟨rfl, rfl⟩
        go_wp2_with fail
        go_roundw
        case rel => exact ⟨k + 1, SS', by omega, by go_num, HR, by simpa using HT2, HO⟩
        case measure => simp [intOf]; omega
      · rw [hb1] at HI1 HT2
        clear hb1
        cases hb2 : z.testBit dst
        · rw [hb2] at HI2 HT2
          clear hb2
          go_wp2_with fail
          refine (unhide HI1).mono ?_
          rintro _ _ ⟨rfl, rfl⟩
          go_wp2_with fail
          refine (unhide HI2).mono ?_
          rintro _ _ ⟨rfl, rfl⟩
          go_wp2_with fail
          go_roundw
          case rel => exact ⟨k + 1, SS', by omega, by go_num, HR, by simpa using HT2, HO⟩
          case measure => simp [intOf]; omega
        · rw [hb2] at HI2 HT2
          clear hb2
          obtain ⟨g1, S1, e1, e2, y1, hs1, hl1⟩ := (unhide HR).cs hto
          obtain rfl : g1 = g := by have := unhide HG; rw [e1] at this; cases this; rfl
          obtain ⟨g2, S2, e3, e4, y2, hs2, hl2⟩ := (unhide HR).cs hwho
          have yb := (unhide HR).c1
          have hk1 : S1[k]? = some (S1[k]'(by omega)) := List.getElem?_eq_getElem _
          have hk2 : S2[k]? = some (S2[k]'(by omega)) := List.getElem?_eq_getElem _
          generalize S1[k]'(by omega) = x1 at hk1
          generalize S2[k]'(by omega) = x2 at hk2
          have hr1 := rowP_pl e2 hk1
          have hr2 := rowP_pl e4 hk2
          have z2 := hs2.cell hk2
          have hxs := hs2.small x2 (List.mem_of_getElem? hk2)
          have hxr := Reads.of_own (hs2.rows x2 (List.mem_of_getElem? hk2))
          obtain ⟨xe, xA, xc⟩ := x2
          unfold EnR.val at z2
          dsimp only at z2 hxr hxs hr2
          have HLE := hide (fun nq : Nat => storeLearn_any base g1 n S1 (wr.drewN nq) k x1 xA xe.length xc xe wr.heap.size (hs1.calm (belowN (Below.refl _ _) nq)) hl1 hk1 rfl (by omega) (hxr.drewN nq) (Nat.le_refl _) (Nat.le_trans (unhide HR).low.1 (Nat.le_of_lt (unhide HR).house.lt)) (by omega))
          obtain ⟨q, hq⟩ : ∃ q, q = xe.length := ⟨_, rfl⟩
          rw [← hq] at HLE z2
          have HP := hide (fun (w' : World) (r : EnR) (h1 : r.es = (mergeP x1.es xe).1) (h2 : StoreAt w' base g1 (S1.set k r)) (h3 : Only (fun k => k = g1) wr w') => And.intro ((unhide HR).learn e1 e2 h2 (by simp [hl1]) h3) (show plE (SS'.set dst (S1.set k r)) = setP (plE SS') dst k (mergeP (rowP (plE SS') dst k) (rowP (plE SS') who k)).1 by rw [setP_pl r e2, h1, hr1, hr2]))
          have htom : (dst : Int) < (m : Int) := by omega
          have hwhom : (who : Int) < (m : Int) := by omega
          clear e1 e2 e3 e4 hs1 hl1 hs2 hl2 hk1 hk2 hr1 hr2 hxr hq
          go_wp2_with fail
          refine (unhide HI1).mono ?_
          rintro _ _ ⟨rfl, rfl⟩
          go_wp2_with fail
          refine (unhide HI2).mono ?_
          rintro _ _ ⟨rfl, rfl⟩
          go_upto_region 4 with fail
          refine wp_region_draw_tail 18 (by kernel_rfl) (by kernel_rfl) ?_
          simp only [List.take_succ_cons, List.take_zero, List.drop_succ_cons, List.drop_zero]
          repeat (go_big_quiet_step (fail))
          refine wpQuiet_nil ?_
          rintro _ ⟨nq, rfl⟩
          go_wp2_with fail
          refine (unhide HLE nq).mono ?_
          rintro _ w3 ⟨rfl, r, hre, hst, hon0, hlw⟩
          have hon : Only (fun k => k = g1) wr w3 := (Only.of_below (belowN (Below.refl wr.heap.size wr) nq) (fun x h1 h2 => by omega)).trans hon0 (fun _ _ h => h)
          clear hon0
          have hp := unhide HP w3 r hre hst hon
          have HP1 := hide hp.1
          have HO3 := hide ((unhide HO).trans hon (fun _ _ h => h))
          have HT3 := hide (show tellP who dst (labs.drop (k + 1)) (k + 1) (plE (SS'.set dst (S1.set k r))) = tellP who dst labs 0 (plE SS) by rw [hp.2]; simpa using unhide HT2)
          clear hp hre hst hon hlw
          go_wp2_with fail
          go_roundw
          case rel => exact ⟨k + 1, _, by omega, by go_num, HP1, HT3, HO3⟩
          case measure => simp [intOf]; omega
    · obtain rfl : k = n := by omega
      go_wp2_with fail
      go_end0
      refine ⟨rfl, SS', unhide HR, ?_, unhide HO⟩
      have h := unhide HT
      rw [List.drop_of_length_le (by rw [(unhide HR).ln]; exact Nat.le_refl _)] at h
      exact h
end Go.Proofs.Ythmnfbnaeggknaa
