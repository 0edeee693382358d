/- Contract of sameEntries on two rows that read alike; the walk of the law on reg.Live. Conditions: none beyond what each theorem states. -/
import Derived.Test.YthmnfbnaeggknaaRegH
namespace Go.Proofs.Ythmnfbnaeggknaa
open Go.RowKit
set_option linter.unusedVariables false

theorem sameEntries_any (A A' : Option Addr) (n c c' : Nat) (l : List Ent) (B : Nat) (w : World) (hl : l.length = n) (hm : n ≤ 9223372036854775807) (hr : Reads w B 5 A n (l.flatMap entCells)) (hr' : Reads w B 5 A' n (l.flatMap entCells)) :
    Calls Try.prog 14 #[.slice A n c, .slice A' n c'] w fun e w' => e = .returned (.bool true) ∧ ∃ nq, w.drewN nq = w' := by
  have HR := hide hr
  have HR' := hide hr'
  clear hr hr'
  have HL := hide hl
  clear hl
  go_enter Try.func14, Try.ntmps14
  go_wp2_with fail
  go_loopw [5] (fun i wr => ∃ k nq : Nat, k ≤ n ∧ i = .int .i64 k ∧ wr = w.drewN nq) (fun i _ => n - (intOf i).toNat)
  case atStart => exact ⟨0, 0, Nat.zero_le _, rfl, rfl⟩
  case round =>
    obtain ⟨k, nq, hk, rfl, rfl⟩ := hrel
    by_cases hlt : k < n
    · obtain ⟨b, o, e, rfl, hbl, he, hc⟩ := at_row entCells_len (by omega) (unhide HR) hlt (unhide HL)
      obtain ⟨b', o', e', rfl, hbl', he', hc'⟩ := at_row entCells_len (by omega) (unhide HR') hlt (unhide HL)
      obtain rfl : e = e' := by rw [he] at he'; injection he'
      have c0 : w.cell? ⟨b, o + k * 5, none⟩ = some (.int .i64 e.key) := hc 0 _ rfl
      have c1 : w.cell? ⟨b, o + k * 5 + 1, none⟩ = some (.int .i64 e.value) := hc 1 _ rfl
      have c2 : w.cell? ⟨b, o + k * 5 + 2, none⟩ = some (.int .i64 e.time) := hc 2 _ rfl
      have c3 : w.cell? ⟨b, o + k * 5 + 3, none⟩ = some (.int .i64 e.who) := hc 3 _ rfl
      have c4 : w.cell? ⟨b, o + k * 5 + 4, none⟩ = some (.bool e.gone) := hc 4 _ rfl
      have d0 : w.cell? ⟨b', o' + k * 5, none⟩ = some (.int .i64 e.key) := hc' 0 _ rfl
      have d1 : w.cell? ⟨b', o' + k * 5 + 1, none⟩ = some (.int .i64 e.value) := hc' 1 _ rfl
      have d2 : w.cell? ⟨b', o' + k * 5 + 2, none⟩ = some (.int .i64 e.time) := hc' 2 _ rfl
      have d3 : w.cell? ⟨b', o' + k * 5 + 3, none⟩ = some (.int .i64 e.who) := hc' 3 _ rfl
      have d4 : w.cell? ⟨b', o' + k * 5 + 4, none⟩ = some (.bool e.gone) := hc' 4 _ rfl
      have hkn : (k : Int) < (n : Int) := by omega
      clear he he' hbl hbl' hc hc'
      go_wp2_with fail
      go_quiet (fail)
      go_wp2_with fail
      go_roundw
      case rel => exact ⟨k + 1, _, by omega, by go_num, rfl⟩
      case measure => simp [intOf]; omega
    · obtain rfl : k = n := by omega
      go_wp2_with fail
      go_ret
      exact ⟨rfl, nq, rfl⟩

theorem own_len {w : World} {base size n : Nat} {e : TypeId} {v : Value} {xs : List Value} (h : w.ownsRow base e size v n xs) : n ≤ 9223372036854775807 := by
  rcases h.2 with ⟨_, h0⟩ | ⟨g, cap, cur, e1, _, _, h2, h3, _⟩
  · omega
  · unfold maxLen at h3; omega

theorem walk_RegLives (A : Option Addr) (n c : Nat) (l : List Ent) (w : World) (m : n * 40 ≤ 140737488351232) (e : l.length = n) (hr : Reads w w.heap.size 5 A n (l.flatMap entCells)) :
    Calls Try.prog 5 #[.slice A n c] w fun e w' => e = .returned (.bool true) ∧ Below w.heap.size w w' := by
  have H1 := hide (regLive_any A n c l _ w e m hr (Nat.le_refl _))
  have H2 := hide (fun w1 (hb : Below w.heap.size w w1) => entriesLive_any A n c l _ w1 e m (hr.below hb) hb.size)
  clear e hr m
  go_enter Try.func5, Try.ntmps5
  go_wp2_with fail
  refine (unhide H1).mono ?_
  rintro e w1 ⟨v1, rfl, ho1, hb1⟩
  obtain ⟨A1, c1, rfl, hc1⟩ := own_slice ho1
  have HB1 := hide hb1
  have HO1 := hide ho1
  clear hb1 ho1
  go_wp2_with fail
  refine (unhide H2 _ (unhide HB1)).mono ?_
  rintro e w2 ⟨v2, rfl, ho2, hb2⟩
  obtain ⟨A2, c2, rfl, hc2⟩ := own_slice ho2
  have hr1 := ((Reads.of_own (unhide HO1)).below hb2).more hb2.size
  have hr2 := Reads.of_own ho2
  have HS := hide (sameEntries_any A1 A2 _ c1 c2 (liveP l).1 _ w2 rfl (own_len ho2) hr1 hr2)
  have HB2 := hide ((unhide HB1).trans (hb2.mono (unhide HB1).size))
  clear ho2 hb2 hr1 hr2
  go_wp2_with fail
  refine (unhide HS).mono ?_
  rintro e w3 ⟨rfl, nq, rfl⟩
  go_wp2_with fail
  go_ret
  exact ⟨by simp, below_drewN (unhide HB2) _⟩
end Go.Proofs.Ythmnfbnaeggknaa
