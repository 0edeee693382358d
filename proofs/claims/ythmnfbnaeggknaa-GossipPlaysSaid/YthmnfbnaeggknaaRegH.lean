/- Contracts of reg.Live, of the reference's EntriesLive, of sameEntries; the law's walk. Conditions: none beyond what each theorem states. -/
import Derived.Test.YthmnfbnaeggknaaRegG
import Derived.Test.YthmnfbnaeggknaaRegC
import Derived.Deep.Onto
namespace Go.Proofs.Ythmnfbnaeggknaa
open Go.RowKit
set_option linter.unusedVariables false

def EntsPost (r : List Ent × Int) (e : Ending) (w w' : World) : Prop :=
  ∃ v : Value, e = .returned (.tuple #[v, .int .i64 r.2]) ∧ w'.ownsRow w.heap.size 25 5 v r.1.length (r.1.flatMap entCells) ∧ Below w.heap.size w w'
def liveP (l : List Ent) : List Ent × Int := if mayP l then (l.filter (fun e => !e.gone), 0) else ([], 4)

theorem regLive_any (A : Option Addr) (n c : Nat) (l : List Ent) (B : Nat) (w : World) (hl : l.length = n) (hm : n * 40 ≤ 140737488351232) (hr : Reads w B 5 A n (l.flatMap entCells)) (hB : B ≤ w.heap.size) :
    Calls Try.prog 12 #[.slice A n c] w fun e w' => EntsPost (liveP l) e w w' := by
  have hmx : n ≤ maxLen := by unfold maxLen; omega
  have H1 := hide (regMay_any A n c l B w hl hmx hr hB)
  have H2 := hide (fun w1 (hb : Below w.heap.size w w1) => entClone_any A n c l w.heap.size w1 hl hm ((hr.more hB).below hb) hb.size)
  have HL := hide hl
  clear hl hr
  cases hmay : mayP l with
  | false =>
    have HF := hide (show liveP l = ([], 4) by rw [liveP, hmay]; rfl)
    rw [hmay] at H1
    go_enter Try.func12, Try.ntmps12
    go_wp2_with fail
    refine (unhide H1).mono ?_
    rintro _ w1 ⟨rfl, hb1⟩
    have HB1 := hide hb1
    clear hb1
    go_wp2_with fail
    go_ret2
    rw [unhide HF]
    exact ⟨_, rfl, World.ownsRow_nil _ _ _ _, unhide HB1⟩
  | true =>
    have HF := hide (show liveP l = (l.filter (fun e => !e.gone), 0) by rw [liveP, hmay]; rfl)
    rw [hmay] at H1
    go_enter Try.func12, Try.ntmps12
    go_wp2_with fail
    refine (unhide H1).mono ?_
    rintro _ w1 ⟨rfl, hb1⟩
    have HB1 := hide hb1
    clear hb1
    go_wp2_with fail
    refine (unhide H2 w1 (unhide HB1)).mono ?_
    rintro _ w2 ⟨v, rfl, hown, hb2⟩
    obtain ⟨A2, c2, rfl, hc2⟩ := own_slice hown
    have H3 := hide (entDelete_any 27 (fun e => e.gone) w1.heap.size A2 n c2 l w2 hm hown (unhide HL) hb2.size liveClo_enters liveClo_any)
    have HB2 := hide hb2
    clear hown hb2
    go_wp2_with fail
    refine (unhide H3).mono ?_
    rintro _ w3 ⟨v3, rfl, hown3, hb3⟩
    have HO := hide hown3
    have HB3 := hide hb3
    clear hown3 hb3
    go_wp2_with fail
    go_ret2
    rw [unhide HF]
    exact ⟨_, rfl, (unhide HO).mono (unhide HB1).size, (unhide HB1).trans (((unhide HB2).trans (unhide HB3)).mono (unhide HB1).size)⟩

set_option maxHeartbeats 800000 in
theorem entriesLive_any (A : Option Addr) (n c : Nat) (l : List Ent) (B : Nat) (w : World) (hl : l.length = n) (hm : n * 40 ≤ 140737488351232) (hr : Reads w B 5 A n (l.flatMap entCells)) (hB : B ≤ w.heap.size) :
    Calls Try.prog 13 #[.slice A n c] w fun e w' => EntsPost (liveP l) e w w' := by
  have hmx : n ≤ maxLen := by unfold maxLen; omega
  obtain ⟨i0, hi, hz0, hz1, hz2⟩ := ent_info
  have H1 := hide (entriesMay_any A n c l B w hl hmx hr hB)
  have HR := hide (hr.more hB)
  have HL := hide hl
  clear hl hr
  cases hmay : mayP l with
  | false =>
    have HF := hide (show liveP l = ([], 4) by rw [liveP, hmay]; rfl)
    rw [hmay] at H1
    go_enter Try.func13, Try.ntmps13
    go_wp2_with fail
    refine (unhide H1).mono ?_
    rintro _ w1 ⟨rfl, hb1⟩
    have HB1 := hide hb1
    clear hb1
    go_wp2_with fail
    go_ret2
    rw [unhide HF]
    exact ⟨_, rfl, World.ownsRow_nil _ _ _ _, unhide HB1⟩
  | true =>
    have HF := hide (show liveP l = (l.filter (fun e => !e.gone), 0) by rw [liveP, hmay]; rfl)
    rw [hmay] at H1
    go_enter Try.func13, Try.ntmps13
    go_wp2_with fail
    refine (unhide H1).mono ?_
    rintro _ w1 ⟨rfl, hb1⟩
    have HB1 := hide hb1
    clear hb1
    go_wp2_with fail
    go_loopw [4, 12] (fun v i wr => ∃ (k m : Nat) (gs : List Ent), k ≤ n ∧ m ≤ k ∧ gs.length = m ∧ i = .int .i64 k ∧ wr.ownsRow w.heap.size 25 5 v m (gs.flatMap entCells) ∧ Below w.heap.size w wr ∧ Hid (gs ++ (l.drop k).filter (fun e => !e.gone) = l.filter (fun e => !e.gone))) (fun _ i _ => n - (intOf i).toNat)
    case atStart => exact ⟨0, 0, [], Nat.zero_le _, Nat.le_refl _, rfl, rfl, World.ownsRow_nil _ _ _ _, unhide HB1, rfl⟩
    case round =>
      obtain ⟨k, m, gs, hk, hmk, hgs, rfl, hown, hb, HI⟩ := hrel
      by_cases hlt : k < n
      · obtain ⟨b, o, e, rfl, hbl, he, hc⟩ := at_row entCells_len (by omega) ((unhide HR).below hb) hlt (unhide HL)
        have c0 : wr.cell? ⟨b, o + k * 5, none⟩ = some (.int .i64 e.key) := hc 0 _ rfl
        have c1 : wr.cell? ⟨b, o + k * 5 + 1, none⟩ = some (.int .i64 e.value) := hc 1 _ rfl
        have c2 : wr.cell? ⟨b, o + k * 5 + 2, none⟩ = some (.int .i64 e.time) := hc 2 _ rfl
        have c3 : wr.cell? ⟨b, o + k * 5 + 3, none⟩ = some (.int .i64 e.who) := hc 3 _ rfl
        have c4 : wr.cell? ⟨b, o + k * 5 + 4, none⟩ = some (.bool e.gone) := hc 4 _ rfl
        have HI2 := hide (by have h := unhide HI; rw [drop_cons l k e he, List.filter_cons] at h; exact h)
        have hsz := hb.size
        have HB := hide hb
        clear HI hc he hb
        cases hg : e.gone with
        | true =>
          have HI3 := hide (show gs ++ (l.drop (k + 1)).filter (fun e => !e.gone) = l.filter (fun e => !e.gone) by
            have h := unhide HI2
            rw [hg] at h
            simpa using h)
          have HO := hide hown
          rw [hg] at c4
          clear HI2 hown
          go_wp2_with fail
          go_roundw
          case rel => exact ⟨k + 1, m, gs, by omega, by omega, hgs, by go_num, (unhide HO).alloc _, (unhide HB).alloc hsz _, unhide HI3⟩
          case measure => simp [intOf]; omega
        | false =>
          have HI3 := hide (show (gs ++ [e]) ++ (l.drop (k + 1)).filter (fun e => !e.gone) = l.filter (fun e => !e.gone) by
            have h := unhide HI2
            rw [hg] at h
            simpa using h)
          have hown1 := hown.alloc (.cells #[.int .i64 e.key, .int .i64 e.value, .int .i64 e.time, .int .i64 e.who, .bool e.gone] 25)
          have hb1 := (unhide HB).alloc hsz (.cells #[.int .i64 e.key, .int .i64 e.value, .int .i64 e.time, .int .i64 e.who, .bool e.gone] 25)
          rw [hg] at c4 hown1 hb1
          have HO := hide hown1
          have HBB := hide hb1
          have hmb : (m + 1) * 40 ≤ 140737488355328 := by omega
          clear HI2 hown hown1 hb1
          go_wp2_with (first
            | (at_builtin; go_loud (refine wpList_append_new _ rfl (.tmp 19) (.tmp 21) _ rfl w.heap.size 25 i0 _ 5 40 Try.underlying22 hi hz0 hz1 hz2 rfl (by omega) (by omega) _ _ _ (unhide HO) rfl _ 1 _ rfl (by simp) rfl (by intro u hu; simp at hu; rcases hu with rfl | rfl | rfl | rfl | rfl <;> rfl) hmb (by omega) ?_); intro g cap w4 hg4 hown4 hbel4 _ _))
          go_roundw
          case rel =>
            refine ⟨k + 1, m + 1, gs ++ [e], by omega, by omega, by simp [hgs], by go_num, ?_, hbel4 _ _ (Nat.le_refl _) (unhide HBB), unhide HI3⟩
            have h5 : (gs ++ [e]).flatMap entCells = gs.flatMap entCells ++ entCells e := by simp
            rw [h5]
            have h6 : entCells e = #[.int .i64 e.key, .int .i64 e.value, .int .i64 e.time, .int .i64 e.who, Value.bool false].toList := by rw [entCells, hg]
            rw [h6]
            exact hown4
          case measure => simp [intOf]; omega
      · obtain rfl : k = n := by omega
        have HG := hide (show gs = l.filter (fun e => !e.gone) by
          have h := unhide HI
          rw [List.drop_of_length_le (by rw [unhide HL]; exact Nat.le_refl _)] at h
          simpa using h)
        have HO := hide hown
        have HB := hide hb
        have HGS := hide hgs
        clear HI hown hb hgs
        go_wp2_with fail
        go_ret2
        rw [unhide HF]
        refine ⟨_, rfl, ?_, unhide HB⟩
        dsimp only
        rw [← unhide HG, unhide HGS]
        exact unhide HO
end Go.Proofs.Ythmnfbnaeggknaa
