/- gossip: turn. Conditions: none beyond what each theorem states. -/
import Derived.Test.YthmnfbnaeggknaaGosD
namespace Go.Proofs.Ythmnfbnaeggknaa
open Go.RowKit
set_option linter.unusedVariables false

structure TurnI where
  kind : Int
  who : Int
  dst : Int
  label : Int
  key : Int
  value : Int
def turnP (m : Nat) (labs : List Nat) (t : TurnI) (P : List (List (List Ent))) : Int × List (List (List Ent)) :=
  if t.kind < 1 ∨ 3 < t.kind then (3, P)
  else if ¬ (0 ≤ t.who ∧ t.who < m) then (2, P)
  else if t.kind = 3 then (if ¬ (0 ≤ t.dst ∧ t.dst < m) then (2, P) else (0, tellP t.who.toNat t.dst.toNat labs 0 P))
  else if t.label < 0 ∨ (labs.length : Int) ≤ t.label ∨ t.key < 0 ∨ 8 ≤ t.key ∨ (t.kind = 1 ∧ (t.value < 0 ∨ 255 < t.value)) then (2, P)
  else if ((labs[t.label.toNat]?).getD 0).testBit t.who.toNat = false then (11, P)
  else if t.kind = 1 then (0, setP P t.who.toNat t.label.toNat (putE (rowP P t.who.toNat t.label.toNat) t.who t.key t.value false))
  else if (findE (rowP P t.who.toNat t.label.toNat) t.key).2 = false then (6, P)
  else (0, setP P t.who.toNat t.label.toNat (putE (rowP P t.who.toNat t.label.toNat) t.who t.key 0 true))
def turnC (t : TurnI) : Array Value := #[.int .i64 t.kind, .int .i64 t.who, .int .i64 t.dst, .int .i64 t.label, .int .i64 t.key, .int .i64 t.value]
def TurnPost (base hb sb n c m mc : Nat) (A : Option Addr) (labs : List Nat) (G : List Nat) (w : World) (r : Int × List (List (List Ent))) (e : Ending) (w' : World) : Prop :=
  e = .returned (.int .i64 r.1) ∧ ∃ SS', HouseAt w' base hb sb n c m mc A labs G SS' ∧ plE SS' = r.2 ∧ Only (fun k => k ∈ G) w w'
theorem turnPost_same {base hb sb n c m mc : Nat} {A : Option Addr} {labs : List Nat} {G : List Nat} {w w' : World} {SS : List (List EnR)} {x : Int} {r : Int × List (List (List Ent))} (h : HouseAt w' base hb sb n c m mc A labs G SS) (ho : Below w.heap.size w w') (e : r = (x, plE SS)) :
    TurnPost base hb sb n c m mc A labs G w r (.returned (.int .i64 x)) w' := by
  subst e
  exact ⟨rfl, SS, h, rfl, Only.of_below ho (fun x h1 h2 => by omega)⟩
set_option maxRecDepth 100000 in
set_option maxHeartbeats 4000000 in
theorem gosTurn_early (base hb sb n c m mc : Nat) (A : Option Addr) (labs : List Nat) (G : List Nat) (SS : List (List EnR)) (w : World) (t : TurnI) (h : HouseAt w base hb sb n c m mc A labs G SS) (ht : ∀ S ∈ SS, ∀ x ∈ S, ∀ e ∈ x.es, 0 ≤ e.time ∧ e.time ≤ 2000000) (hE : ¬ (¬ (t.kind < 1 ∨ 3 < t.kind) ∧ (0 ≤ t.who ∧ t.who < m) ∧ ¬ t.kind = 3 ∧ ¬ (t.label < 0 ∨ (labs.length : Int) ≤ t.label ∨ t.key < 0 ∨ 8 ≤ t.key ∨ (t.kind = 1 ∧ (t.value < 0 ∨ 255 < t.value))))) :
    Calls Try.prog 34 #[.pointer (some ⟨hb, 0, none⟩), .agg (turnC t)] w (TurnPost base hb sb n c m mc A labs G w (turnP m labs t (plE SS))) := by
  obtain ⟨kind, who, dst, label, key, value⟩ := t
  dsimp only at hE
  obtain ⟨w1, hw1⟩ : ∃ w1, w1 = w.alloc (.cells #[.int .i64 kind, .int .i64 who, .int .i64 dst, .int .i64 label, .int .i64 key, .int .i64 value] 60) := ⟨_, rfl⟩
  have hb1 : Below w.heap.size w w1 := by rw [hw1]; exact (Below.refl _ _).alloc (Nat.le_refl _) _
  obtain ⟨p, hp⟩ : ∃ p, p = w.heap.size := ⟨_, rfl⟩
  have kt : Blk w1 p 60 #[.int .i64 kind, .int .i64 who, .int .i64 dst, .int .i64 label, .int .i64 key, .int .i64 value] := by rw [hw1, hp]; exact Blk.new w 60 _
  have t0 : w1.cell? ⟨p, 0, none⟩ = some (.int .i64 kind) := kt.cell 0
  have t1 : w1.cell? ⟨p, 1, none⟩ = some (.int .i64 who) := kt.cell 1
  have t2 : w1.cell? ⟨p, 2, none⟩ = some (.int .i64 dst) := kt.cell 2
  have t3 : w1.cell? ⟨p, 3, none⟩ = some (.int .i64 label) := kt.cell 3
  have t4 : w1.cell? ⟨p, 4, none⟩ = some (.int .i64 key) := kt.cell 4
  have t5 : w1.cell? ⟨p, 5, none⟩ = some (.int .i64 value) := kt.cell 5
  have HKT := hide kt
  have h1 := h.calm hb1
  have hm60 := h1.m8
  have hn8 := h1.n8
  have y0 := h1.c0
  have y1 := h1.c1
  have HTW := hide (gosThere_any base hb sb n c m mc A labs G SS w1 who h1)
  have HTD := hide (gosThere_any base hb sb n c m mc A labs G SS w1 dst h1)
  have HH := hide h1
  have HB := hide hb1
  have HW1 := hide hw1
  have HP := hide hp
  have HTM := hide ht
  have HLN := hide h1.ln
  have HDEF := hide (show turnP m labs ⟨kind, who, dst, label, key, value⟩ (plE SS) = turnP m labs ⟨kind, who, dst, label, key, value⟩ (plE SS) from rfl)
  clear h kt h1 hb1 hw1 hp ht
  unfold turnC
  dsimp only
  go_enter Try.func34, Try.ntmps34
  go_upto_region 1 with fail
  rw [← unhide HW1, ← unhide HP]
  by_cases c1 : kind < 1
  · go_wp2_with fail
    go_ret
    exact turnPost_same (unhide HH) (unhide HB) (by unfold turnP; rw [if_pos (Or.inl c1)])
  by_cases c2 : 3 < kind
  · go_wp2_with fail
    go_ret
    exact turnPost_same (unhide HH) (unhide HB) (by unfold turnP; rw [if_pos (Or.inr c2)])
  have c12 : ¬ (kind < 1 ∨ 3 < kind) := by omega
  by_cases c3 : 0 ≤ who ∧ who < m
  case neg =>
    have hd : (decide (0 ≤ who) && decide (who < m)) = false := by
      rw [← Bool.not_eq_true, Bool.and_eq_true, decide_eq_true_eq, decide_eq_true_eq]; exact c3
    rw [hd] at HTW
    go_wp2_with fail
    refine (unhide HTW).mono ?_
    rintro _ _ ⟨rfl, rfl⟩
    go_wp2_with fail
    go_ret
    exact turnPost_same (unhide HH) (unhide HB) (by unfold turnP; rw [if_neg c12, if_pos c3])
  have hd : (decide (0 ≤ who) && decide (who < m)) = true := by simpa using c3
  rw [hd] at HTW
  clear hd
  by_cases c4 : kind = 3
  · subst c4
    by_cases c5 : 0 ≤ dst ∧ dst < m
    case neg =>
      have hd : (decide (0 ≤ dst) && decide (dst < m)) = false := by
        rw [← Bool.not_eq_true, Bool.and_eq_true, decide_eq_true_eq, decide_eq_true_eq]; exact c5
      rw [hd] at HTD
      go_wp2_with fail
      refine (unhide HTW).mono ?_
      rintro _ _ ⟨rfl, rfl⟩
      go_wp2_with fail
      refine (unhide HTD).mono ?_
      rintro _ _ ⟨rfl, rfl⟩
      go_wp2_with fail
      go_ret
      exact turnPost_same (unhide HH) (unhide HB) (by unfold turnP; rw [if_neg c12, if_neg (by simpa using c3), if_pos rfl, if_pos c5])
    have hd : (decide (0 ≤ dst) && decide (dst < m)) = true := by simpa using c5
    rw [hd] at HTD
    clear hd
    obtain ⟨who, rfl⟩ : ∃ z : Nat, who = z := ⟨who.toNat, by omega⟩
    obtain ⟨dst, rfl⟩ : ∃ z : Nat, dst = z := ⟨dst.toNat, by omega⟩
    obtain ⟨g, S, e1, _⟩ := (unhide HH).cs (j := dst) (by omega)
    have HTE := hide (gosTell_any base hb sb n c m mc A labs G SS w1 who dst g (unhide HH) (by omega) (by omega) e1)
    have HG := hide (List.mem_of_getElem? e1)
    clear e1
    go_wp2_with fail
    refine (unhide HTW).mono ?_
    rintro _ _ ⟨rfl, rfl⟩
    go_wp2_with fail
    refine (unhide HTD).mono ?_
    rintro _ _ ⟨rfl, rfl⟩
    go_wp2_with fail
    refine (unhide HTE).mono ?_
    rintro _ w2 ⟨rfl, SS', hh2, hp2, ho2⟩
    have HH2 := hide hh2
    have HP2 := hide hp2
    have HO2 := hide ho2
    clear hh2 hp2 ho2
    go_wp2_with fail
    go_ret
    refine ⟨?_, SS', unhide HH2, ?_, (Only.of_below (unhide HB) (fun x h1 h2 => by omega)).trans (unhide HO2) (fun x _ e => by rw [e]; exact unhide HG)⟩
    · unfold turnP; rw [if_neg c12, if_neg (by simpa using c3), if_pos rfl, if_neg (by simpa using c5)]; rfl
    · unfold turnP; rw [if_neg c12, if_neg (by simpa using c3), if_pos rfl, if_neg (by simpa using c5)]; exact unhide HP2
  by_cases c6 : label < 0 ∨ (labs.length : Int) ≤ label ∨ key < 0 ∨ 8 ≤ key ∨ (kind = 1 ∧ (value < 0 ∨ 255 < value))
  case pos =>
    have hfin : turnP m labs ⟨kind, who, dst, label, key, value⟩ (plE SS) = (2, plE SS) := by
      unfold turnP; rw [if_neg c12, if_neg (by simpa using c3), if_neg c4, if_pos c6]
    have HFI := hide hfin
    rw [unhide HLN] at c6
    clear hfin
    go_wp2_with fail
    refine (unhide HTW).mono ?_
    rintro _ _ ⟨rfl, rfl⟩
    go_upto_region 10 with fail
    by_cases d1 : label < 0
    · go_quiet (fail)
      go_wp2_with fail
      go_ret
      exact turnPost_same ((unhide HH).calm (below_drewN (Below.refl _ _) _)) (below_drewN (unhide HB) _) (unhide HFI)
    by_cases d2 : (n : Int) ≤ label
    · go_quiet (fail)
      go_wp2_with fail
      go_ret
      exact turnPost_same ((unhide HH).calm (below_drewN (Below.refl _ _) _)) (below_drewN (unhide HB) _) (unhide HFI)
    by_cases d3 : key < 0
    · go_quiet (fail)
      go_wp2_with fail
      go_ret
      exact turnPost_same ((unhide HH).calm (below_drewN (Below.refl _ _) _)) (below_drewN (unhide HB) _) (unhide HFI)
    by_cases d4 : 8 ≤ key
    · go_quiet (fail)
      go_wp2_with fail
      go_ret
      exact turnPost_same ((unhide HH).calm (below_drewN (Below.refl _ _) _)) (below_drewN (unhide HB) _) (unhide HFI)
    obtain rfl : kind = 1 := by omega
    by_cases d5 : value < 0
    · go_quiet (fail)
      go_wp2_with fail
      go_ret
      exact turnPost_same ((unhide HH).calm (below_drewN (Below.refl _ _) _)) (below_drewN (unhide HB) _) (unhide HFI)
    have d6 : 255 < value := by omega
    go_quiet (fail)
    go_wp2_with fail
    go_ret
    exact turnPost_same ((unhide HH).calm (below_drewN (Below.refl _ _) _)) (below_drewN (unhide HB) _) (unhide HFI)
  exact absurd ⟨c12, c3, c4, c6⟩ hE
end Go.Proofs.Ythmnfbnaeggknaa
