/- The reference's gossipTurn, whole. Conditions: none beyond what each theorem states. -/
import Derived.Test.YthmnfbnaeggknaaShvD
namespace Go.Proofs.Ythmnfbnaeggknaa
open Go.RowKit
set_option linter.unusedVariables false

set_option maxRecDepth 100000 in
set_option maxHeartbeats 4000000 in
theorem refTurn_late (base sb hb ib n c m hc ic : Nat) (A : Option Addr) (X Y : List Nat) (Q : List (List Slot)) (labs : List Nat) (w : World) (T : Int) (t : TurnI) (h : ShvAt w base sb hb ib n c m hc ic A X Y Q) (hla : LabsAt w base n A labs) (hG : Goods T m n Q) (hT : T ≤ 1000000) (hm8 : m ≤ 8) (hE : ¬ (t.kind < 1 ∨ 3 < t.kind) ∧ (0 ≤ t.who ∧ t.who < m) ∧ ¬ t.kind = 3 ∧ ¬ (t.label < 0 ∨ (labs.length : Int) ≤ t.label ∨ t.key < 0 ∨ 8 ≤ t.key ∨ (t.kind = 1 ∧ (t.value < 0 ∨ 255 < t.value)))) :
    Calls Try.prog 36 #[.pointer (some ⟨sb, 0, none⟩), .int .i64 m, .agg (turnC t)] w (RTurnPost base sb hb ib n c m hc ic A X Y w (turnQ m labs t Q)) := by
  obtain ⟨kind, who, dst, label, key, value⟩ := t
  dsimp only at hE
  obtain ⟨w1, hw1⟩ : ∃ w1, w1 = w.alloc (.cells #[.int .i64 kind, .int .i64 who, .int .i64 dst, .int .i64 label, .int .i64 key, .int .i64 value] 60) := ⟨_, rfl⟩
  have hb1 : Below w.heap.size w w1 := by rw [hw1]; exact (Below.refl _ _).alloc (Nat.le_refl _) _
  obtain ⟨p, hp⟩ : ∃ p, p = w.heap.size := ⟨_, rfl⟩
  have kt : Blk w1 p 60 #[.int .i64 kind, .int .i64 who, .int .i64 dst, .int .i64 label, .int .i64 key, .int .i64 value] := by rw [hw1, hp]; exact Blk.new w 60 _
  obtain ⟨c12, c3, c4, c6⟩ := hE
  have c1 : ¬ kind < 1 := by omega
  have c2 : ¬ 3 < kind := by omega
  obtain ⟨who, rfl⟩ : ∃ z : Nat, who = z := ⟨who.toNat, by omega⟩
  obtain ⟨lb, rfl⟩ : ∃ z : Nat, label = z := ⟨label.toNat, by omega⟩
  obtain ⟨key, rfl⟩ : ∃ z : Nat, key = z := ⟨key.toNat, by omega⟩
  have hlb : lb < n := by have := hla.ln; omega
  have hwm : who < m := by omega
  have hk8 : key < 8 := by omega
  have h1 := h.calm hb1
  obtain ⟨x, y, q, ex, ey, eq, y1, y2, ho⟩ := h1.cs hwm
  have hgq := hG.each q (List.mem_of_getElem? eq)
  have hbase : base ≤ w1.heap.size := Nat.le_trans h1.low.1 (Nat.le_of_lt h1.shelves.lt)
  have hla1 : LabsAt w1 base n A labs := ⟨hla.rd.below (hb1.mono (Nat.le_trans h.low.1 (Nat.le_of_lt h.shelves.lt))), hla.ln, hla.lb⟩
  obtain ⟨bx, o, z, rfl, hzl, hcz⟩ := int_at hla1.rd hlb
  have hz255 := hla.lb z (List.mem_of_getElem? hzl)
  have hgz : (labs[lb]?).getD 0 = z := by rw [hzl]; rfl
  have hqq : Q[who]?.getD [] = q := by rw [eq]; rfl
  have HFT := hide (show turnQ m labs ⟨kind, who, dst, lb, key, value⟩ Q = (if z.testBit who = false then (11, Q) else if kind = 1 then (0, Q.set who (setS q lb who key value false)) else if turnQ.liveQ q (lb * 8 + key) = false then (6, Q) else (0, Q.set who (setS q lb who key 0 true))) by
    unfold turnQ
    rw [if_neg c12, if_neg (by simpa using c3), if_neg c4, if_neg c6]
    dsimp only
    simp only [Int.toNat_natCast]
    rw [hgz, hqq])
  have hs : q[lb * 8 + key]? = some (q[lb * 8 + key]'(by have := hgq.1; omega)) := List.getElem?_eq_getElem _
  generalize q[lb * 8 + key]'(by have := hgq.1; omega) = s at hs
  have b0 := ho.cellB hs
  have e4 := ho.cellE hs 4 (.bool s.1.gone) rfl
  have hlive : turnQ.liveQ q (lb * 8 + key) = (s.2 && !s.1.gone) := by
    unfold turnQ.liveQ
    rw [hs]
    obtain ⟨e, b⟩ := s
    cases b <;> rfl
  rw [hlive] at HFT
  have c1' := h1.c1
  have c2' := h1.c2
  have c0' := h1.c0
  have htm : ∀ s ∈ rowQ q lb, s.2 = true → 0 ≤ s.1.time ∧ s.1.time ≤ 2000000 := fun s hs h2 => by
    obtain ⟨i, hi⟩ := List.mem_iff_getElem?.1 hs
    have := (hgq.2.row lb i s hi h2).2.time
    omega
  have hn8 := h.n8
  have HSET := hide (fun (W : World) (val : Int) (gone : Bool) (hz : Below w1.heap.size w1 W) => shvSet_any base sb hb ib n c m hc ic _ X Y Q W who lb key x y val gone q (h1.calm hz) hwm hlb hk8 ex ey eq htm)
  have HXY := hide (fun k (hk : k = x ∨ k = y) => show XY X Y k by
    rcases hk with hk | hk
    · rw [hk]; exact .inl (List.mem_of_getElem? ex)
    · rw [hk]; exact .inr (List.mem_of_getElem? ey))
  have HIN := hide (fun wz : World => refReads_any z who wz hz255 (by omega))
  have t0 := fun n : Ext w1 => n.cell (v := .int .i64 kind) (kt.cell 0)
  have t1 := fun n : Ext w1 => n.cell (v := .int .i64 who) (kt.cell 1)
  have t3 := fun n : Ext w1 => n.cell (v := .int .i64 lb) (kt.cell 3)
  have t4 := fun n : Ext w1 => n.cell (v := .int .i64 key) (kt.cell 4)
  have t5 := fun n : Ext w1 => n.cell (v := .int .i64 value) (kt.cell 5)
  have x0 := fun n : Ext w1 => n.cell c0'
  have x1 := fun n : Ext w1 => n.cell c1'
  have x2 := fun n : Ext w1 => n.cell c2'
  have x3 := fun n : Ext w1 => n.cell y1
  have x4 := fun n : Ext w1 => n.cell y2
  have x5 := fun n : Ext w1 => n.cell b0
  have x6 := fun n : Ext w1 => n.cell e4
  have x7 := fun n : Ext w1 => n.cell hcz
  have q0 : w1.cell? ⟨p, 0, none⟩ = some (.int .i64 kind) := kt.cell 0
  have q1 : w1.cell? ⟨p, 1, none⟩ = some (.int .i64 who) := kt.cell 1
  have hw' : (who : Int) < (m : Int) := by omega
  have hl' : (lb : Int) < (n : Int) := by omega
  have hk' : (key : Int) < 8 := by omega
  have dw0 : decide ((who : Int) < 0) = false := by simp
  have dw1 : decide (m ≤ who) = false := by simpa using hwm
  have dk : (kind == 3) = false := by simpa using c4
  have b1 : decide ((lb : Int) < 0) = false := by simp
  have b2 : decide (n ≤ lb) = false := by simpa using hlb
  have b3 : decide ((key : Int) < 0) = false := by simp
  have b4 : decide (7 < key) = false := by simp; omega
  have c7 : kind = 1 ∧ ¬ value < 0 ∧ ¬ 255 < value ∨ kind = 2 := by omega
  have HB := hide hb1
  have HW1 := hide hw1
  have HP := hide hp
  have HH := hide h
  obtain ⟨⟨s0, s1, s2, s3, s4⟩, sb'⟩ := s
  dsimp only at x5 x6 HFT
  clear h h1 kt hb1 hw1 hp hla hla1 hG hgq ex ey eq y1 y2 ho hbase hcz hzl hz255 hgz hqq hs b0 e4 hlive c1' c2' c0' htm c6
  unfold turnC
  dsimp only
  go_enter Try.func36, Try.ntmps36
  go_upto_region 1 with fail
  rw [← unhide HW1, ← unhide HP]
  go_upto_region 19 with fail
  refine wp_region_calm (by kernel_rfl) (by kernel_rfl) ?_
  repeat (go_big_quiet_step (fail))
  refine wpQuiet_nil ?_
  rintro _ ⟨na, rfl⟩
  rcases c7 with ⟨rfl, d5, d6⟩ | rfl
  all_goals
    go_upto_region 23 with fail
    have t0 := fun n : Ext na.W => t0 (na.on n)
    have t1 := fun n : Ext na.W => t1 (na.on n)
    have t3 := fun n : Ext na.W => t3 (na.on n)
    have t4 := fun n : Ext na.W => t4 (na.on n)
    have t5 := fun n : Ext na.W => t5 (na.on n)
    have x0 := fun n : Ext na.W => x0 (na.on n)
    have x1 := fun n : Ext na.W => x1 (na.on n)
    have x2 := fun n : Ext na.W => x2 (na.on n)
    have x3 := fun n : Ext na.W => x3 (na.on n)
    have x4 := fun n : Ext na.W => x4 (na.on n)
    have x5 := fun n : Ext na.W => x5 (na.on n)
    have x6 := fun n : Ext na.W => x6 (na.on n)
    have x7 := fun n : Ext na.W => x7 (na.on n)
    simp only [Ext.on] at t0 t1 t3 t4 t5 x0 x1 x2 x3 x4 x5 x6 x7
    refine wp_region_calm (by kernel_rfl) (by kernel_rfl) ?_
    repeat (go_big_quiet_step ((go_at_call 49; exact calm_call ((unhide HIN _).mono fun _ _ ⟨he, hw⟩ => ⟨he, hw ▸ Below.refl _ _⟩))))
    refine wpQuiet_nil ?_
    rintro _ ⟨nb, rfl⟩
    cases hzw : z.testBit who
  · rw [hzw] at HFT
    go_wp2_with fail
    go_ret
    exact rturn_same (unhide HH) ((unhide HB).trans ((na.on nb).h.mono (unhide HB).size)) (unhide HFT)
  · rw [hzw] at HFT
    have t0 := t0 nb
    have t1 := t1 nb
    have t3 := t3 nb
    have t4 := t4 nb
    have t5 := t5 nb
    have hnb : Below w1.heap.size w1 nb.W := (na.on nb).h
    have HNB := hide hnb
    go_wp2_with fail
    refine (unhide HSET nb.W _ _ hnb).mono ?_
    rintro _ w3 ⟨rfl, hs3, ho3⟩
    have HS3 := hide hs3
    have HO3 := hide (((Only.of_below ((unhide HB).trans ((unhide HNB).mono (unhide HB).size)) (D := XY X Y) (fun x h1 h2 => by omega)).trans ho3 (fun g _ h => unhide HXY g h)))
    clear hs3 ho3
    go_wp2_with fail
    go_ret
    unfold RTurnPost
    rw [unhide HFT, if_neg (by simp), if_pos trivial]
    exact ⟨rfl, unhide HS3, unhide HO3⟩
  · rw [hzw] at HFT
    go_wp2_with fail
    go_ret
    exact rturn_same (unhide HH) ((unhide HB).trans ((na.on nb).h.mono (unhide HB).size)) (unhide HFT)
  · rw [hzw] at HFT
    go_upto_region 28 with fail
    have t0 := fun n : Ext nb.W => t0 (nb.on n)
    have t1 := fun n : Ext nb.W => t1 (nb.on n)
    have t3 := fun n : Ext nb.W => t3 (nb.on n)
    have t4 := fun n : Ext nb.W => t4 (nb.on n)
    have t5 := fun n : Ext nb.W => t5 (nb.on n)
    have x0 := fun n : Ext nb.W => x0 (nb.on n)
    have x1 := fun n : Ext nb.W => x1 (nb.on n)
    have x2 := fun n : Ext nb.W => x2 (nb.on n)
    have x3 := fun n : Ext nb.W => x3 (nb.on n)
    have x4 := fun n : Ext nb.W => x4 (nb.on n)
    have x5 := fun n : Ext nb.W => x5 (nb.on n)
    have x6 := fun n : Ext nb.W => x6 (nb.on n)
    have x7 := fun n : Ext nb.W => x7 (nb.on n)
    simp only [Ext.on] at t0 t1 t3 t4 t5 x0 x1 x2 x3 x4 x5 x6 x7
    cases sb'
    case' true => cases s4
    all_goals
      refine wp_region_calm (by kernel_rfl) (by kernel_rfl) ?_
      repeat (go_big_quiet_step (fail))
      refine wpQuiet_nil ?_
      rintro _ ⟨nc, rfl⟩
      have t0 := t0 nc
      have t1 := t1 nc
      have t3 := t3 nc
      have t4 := t4 nc
      have hnb : Below w1.heap.size w1 nc.W := ((na.on nb).on nc).h
      have HNB := hide hnb
      go_wp2_with fail
    · refine (unhide HSET nc.W _ _ hnb).mono ?_
      rintro _ w3 ⟨rfl, hs3, ho3⟩
      have HS3 := hide hs3
      have HO3 := hide (((Only.of_below ((unhide HB).trans ((unhide HNB).mono (unhide HB).size)) (D := XY X Y) (fun x h1 h2 => by omega)).trans ho3 (fun g _ h => unhide HXY g h)))
      clear hs3 ho3
      go_wp2_with fail
      go_ret
      unfold RTurnPost
      rw [unhide HFT, if_neg (by simp), if_neg (by simp), if_neg (by simp)]
      exact ⟨rfl, unhide HS3, unhide HO3⟩
    · go_ret
      exact rturn_same (unhide HH) ((unhide HB).trans ((unhide HNB).mono (unhide HB).size)) (by rw [unhide HFT, if_neg (by simp), if_neg (by simp), if_pos (by simp)])
    · go_ret
      exact rturn_same (unhide HH) ((unhide HB).trans ((unhide HNB).mono (unhide HB).size)) (by rw [unhide HFT, if_neg (by simp), if_neg (by simp), if_pos (by simp)])
theorem refTurn_any (base sb hb ib n c m hc ic : Nat) (A : Option Addr) (X Y : List Nat) (Q : List (List Slot)) (labs : List Nat) (w : World) (T : Int) (t : TurnI) (h : ShvAt w base sb hb ib n c m hc ic A X Y Q) (hla : LabsAt w base n A labs) (hG : Goods T m n Q) (hT : T ≤ 1000000) (hm8 : m ≤ 8) :
    Calls Try.prog 36 #[.pointer (some ⟨sb, 0, none⟩), .int .i64 m, .agg (turnC t)] w (RTurnPost base sb hb ib n c m hc ic A X Y w (turnQ m labs t Q)) := by
  by_cases hE : ¬ (t.kind < 1 ∨ 3 < t.kind) ∧ (0 ≤ t.who ∧ t.who < m) ∧ (t.kind = 3 → 0 ≤ t.dst ∧ t.dst < m) ∧ ¬ (t.kind ≠ 3 ∧ (t.label < 0 ∨ (labs.length : Int) ≤ t.label ∨ t.key < 0 ∨ 8 ≤ t.key ∨ (t.kind = 1 ∧ (t.value < 0 ∨ 255 < t.value))))
  case neg => exact refTurn_early base sb hb ib n c m hc ic A X Y Q labs w t h hla hE
  obtain ⟨h1, h2, h3, h4⟩ := hE
  by_cases hk : t.kind = 3
  · obtain ⟨kind, who, dst, label, key, value⟩ := t
    dsimp only at h1 h2 h3 h4 hk
    have h5 := h3 hk
    subst hk
    obtain ⟨who, rfl⟩ : ∃ z : Nat, who = z := ⟨who.toNat, by omega⟩
    obtain ⟨dst, rfl⟩ : ∃ z : Nat, dst = z := ⟨dst.toNat, by omega⟩
    have := refTurn_tell base sb hb ib n c m hc ic A X Y Q labs w T who dst label key value h hla hG hT (by omega) (by omega) hm8
    have e : turnQ m labs ⟨3, who, dst, label, key, value⟩ Q = (0, tellQ who dst labs 0 Q) := by
      unfold turnQ
      rw [if_neg h1, if_neg (by simpa using h2), if_pos rfl, if_neg (by simpa using h5)]
      rfl
    rw [e]
    exact this
  · exact refTurn_late base sb hb ib n c m hc ic A X Y Q labs w T t h hla hG hT hm8 ⟨h1, h2, hk, fun h => h4 ⟨hk, h⟩⟩
end Go.Proofs.Ythmnfbnaeggknaa
