/- gossip: turn, second part: Put and Find. Conditions: none beyond what each theorem states. -/
import Derived.Test.YthmnfbnaeggknaaGosE
namespace Go.Proofs.Ythmnfbnaeggknaa
open Go.RowKit
set_option linter.unusedVariables false

set_option maxRecDepth 100000 in
set_option maxHeartbeats 4000000 in
theorem gosTurn_late (base hb sb n c m mc : Nat) (A : Option Addr) (labs : List Nat) (G : List Nat) (SS : List (List EnR)) (w : World) (t : TurnI) (h : HouseAt w base hb sb n c m mc A labs G SS) (ht : ∀ S ∈ SS, ∀ x ∈ S, ∀ e ∈ x.es, 0 ≤ e.time ∧ e.time ≤ 2000000) (hE : ¬ (t.kind < 1 ∨ 3 < t.kind) ∧ (0 ≤ t.who ∧ t.who < m) ∧ ¬ t.kind = 3 ∧ ¬ (t.label < 0 ∨ (labs.length : Int) ≤ t.label ∨ t.key < 0 ∨ 8 ≤ t.key ∨ (t.kind = 1 ∧ (t.value < 0 ∨ 255 < t.value)))) :
    Calls Try.prog 34 #[.pointer (some ⟨hb, 0, none⟩), .agg (turnC t)] w (TurnPost base hb sb n c m mc A labs G w (turnP m labs t (plE SS))) := by
  obtain ⟨kind, who, dst, label, key, value⟩ := t
  dsimp only at hE
  obtain ⟨w1, hw1⟩ : ∃ w1, w1 = w.alloc (.cells #[.int .i64 kind, .int .i64 who, .int .i64 dst, .int .i64 label, .int .i64 key, .int .i64 value] 60) := ⟨_, rfl⟩
  have hb1 : Below w.heap.size w w1 := by rw [hw1]; exact (Below.refl _ _).alloc (Nat.le_refl _) _
  obtain ⟨p, hp⟩ : ∃ p, p = w.heap.size := ⟨_, rfl⟩
  have kt : Blk w1 p 60 #[.int .i64 kind, .int .i64 who, .int .i64 dst, .int .i64 label, .int .i64 key, .int .i64 value] := by rw [hw1, hp]; exact Blk.new w 60 _
  have t0 : w1.cell? ⟨p, 0, none⟩ = some (.int .i64 kind) := kt.cell 0
  have t1 : w1.cell? ⟨p, 1, none⟩ = some (.int .i64 who) := kt.cell 1
  have t2 : w1.cell? ⟨p, 2, none⟩ = some (.int .i64 dst) := kt.cell 2
  have t3 : w1.cell? ⟨p, 3, none⟩ = some (.int .i64 label) := kt.cell 3
  have t4 : w1.cell? ⟨p, 4, none⟩ = some (.int .i64 key) := kt.cell 4
  have t5 : w1.cell? ⟨p, 5, none⟩ = some (.int .i64 value) := kt.cell 5
  have HKT := hide kt
  have h1 := h.calm hb1
  have hm60 := h1.m8
  have hn8 := h1.n8
  have y0 := h1.c0
  have y1 := h1.c1
  have HTW := hide (gosThere_any base hb sb n c m mc A labs G SS w1 who h1)
  have HTD := hide (gosThere_any base hb sb n c m mc A labs G SS w1 dst h1)
  have HH := hide h1
  have HB := hide hb1
  have HW1 := hide hw1
  have HP := hide hp
  have HTM := hide ht
  have HLN := hide h1.ln
  have HDEF := hide (show turnP m labs ⟨kind, who, dst, label, key, value⟩ (plE SS) = turnP m labs ⟨kind, who, dst, label, key, value⟩ (plE SS) from rfl)
  clear h kt h1 hb1 hw1 hp ht
  unfold turnC
  dsimp only
  go_enter Try.func34, Try.ntmps34
  go_upto_region 1 with fail
  rw [← unhide HW1, ← unhide HP]
  obtain ⟨c12, c3, c4, c6⟩ := hE
  have c1 : ¬ kind < 1 := by omega
  have c2 : ¬ 3 < kind := by omega
  have hd : (decide (0 ≤ who) && decide (who < m)) = true := by simpa using c3
  rw [hd] at HTW
  clear hd
  obtain ⟨who, rfl⟩ : ∃ z : Nat, who = z := ⟨who.toNat, by omega⟩
  obtain ⟨lb, rfl⟩ : ∃ z : Nat, label = z := ⟨label.toNat, by omega⟩
  have hlb : lb < n := by have := unhide HLN; omega
  have hwm : who < m := by omega
  obtain ⟨bx, o, z, rfl, hz, hc⟩ := int_at (unhide HH).lab hlb
  have hz255 := (unhide HH).lb z (List.mem_of_getElem? hz)
  have HIN := hide (fun wz : World => gosIn_any z who wz hz255 (by omega))
  have hgz : (labs[lb]?).getD 0 = z := by rw [hz]; rfl
  have HFT := hide (show turnP m labs ⟨kind, who, dst, lb, key, value⟩ (plE SS) = (if z.testBit who = false then (11, plE SS) else if kind = 1 then (0, setP (plE SS) who lb (putE (rowP (plE SS) who lb) who key value false)) else if (findE (rowP (plE SS) who lb) key).2 = false then (6, plE SS) else (0, setP (plE SS) who lb (putE (rowP (plE SS) who lb) who key 0 true))) by
    unfold turnP
    rw [if_neg c12, if_neg (by simpa using c3), if_neg c4, if_neg c6]
    dsimp only
    simp only [Int.toNat_natCast]
    rw [hgz])
  have d1 : ¬ (lb : Int) < 0 := by omega
  have d2 : ¬ (n : Int) ≤ lb := by omega
  have d3 : ¬ key < 0 := by omega
  have d4 : ¬ 8 ≤ key := by omega
  have c7 : kind = 1 ∧ ¬ value < 0 ∧ ¬ 255 < value ∨ ¬ kind = 1 := by omega
  clear hz hgz c6
  have b1 : decide ((lb : Int) < 0) = false := by simp
  have b2 : decide ((n : Int) ≤ (lb : Int)) = false := by simpa using d2
  have b2' : decide (n ≤ lb) = false := by simpa using hlb
  have b3 : decide (key < 0) = false := by simpa using d3
  have b4 : decide (8 ≤ key) = false := by simpa using d4
  have c9 : kind = 1 ∨ (kind == 1) = false := by rcases c7 with h | h
                                                 · exact Or.inl h.1
                                                 · right; simpa using h
  rcases c7 with ⟨rfl, d5, d6⟩ | c8
  case' inr =>
    have b5 : decide (kind = 1) = false := by simpa using c8
    have b5' : (kind == 1) = false := by simpa using c8
  case' inl =>
    have b6 : decide (value < 0) = false := by simpa using d5
    have b7 : decide (255 < value) = false := by simpa using d6
  all_goals
    clear c9
    go_wp2_with fail
    refine (unhide HTW).mono ?_
    rintro _ _ ⟨rfl, rfl⟩
    go_upto_region 10 with fail
    refine wp_region_draw_tail 38 (by kernel_rfl) (by kernel_rfl) ?_
    simp only [List.take_succ_cons, List.take_zero, List.drop_succ_cons, List.drop_zero]
    repeat (go_big_quiet_step (fail))
    refine wpQuiet_nil ?_
    rintro _ ⟨nq, rfl⟩
    go_upto_region 12 with fail
    refine wp_region_draw_tail 10 (by kernel_rfl) (by kernel_rfl) ?_
    simp only [List.take_succ_cons, List.take_zero, List.drop_succ_cons, List.drop_zero]
    repeat (go_big_quiet_step (fail))
    refine wpQuiet_nil ?_
    rintro _ ⟨nq2, rfl⟩
    go_wp2_with fail
    refine (unhide HIN _).mono ?_
    rintro _ _ ⟨rfl, rfl⟩
    obtain ⟨w2, hw2⟩ : ∃ w2, w2 = w1.drewN (nq + nq2) := ⟨_, rfl⟩
    have hb2 : Below w1.heap.size w1 w2 := by rw [hw2]; exact belowN (Below.refl _ _) _
    have s1 : w2.cell? ⟨p, 1, none⟩ = some (.int .i64 who) := by rw [hw2]; exact t1
    have s3 : w2.cell? ⟨p, 3, none⟩ = some (.int .i64 lb) := by rw [hw2]; exact t3
    have s4 : w2.cell? ⟨p, 4, none⟩ = some (.int .i64 key) := by rw [hw2]; exact t4
    have s5 : w2.cell? ⟨p, 5, none⟩ = some (.int .i64 value) := by rw [hw2]; exact t5
    have s0 := (show w2.cell? ⟨p, 0, none⟩ = w1.cell? ⟨p, 0, none⟩ by rw [hw2]; rfl).trans t0
    have HH2 := hide ((unhide HH).calm hb2)
    have HB2 := hide ((unhide HB).trans (hb2.mono (unhide HB).size))
    obtain ⟨g, S, e1, e2, u2, hs, hl⟩ := (unhide HH2).cs hwm
    have u1 := (unhide HH2).c1
    have hx : S[lb]? = some (S[lb]'(by omega)) := List.getElem?_eq_getElem _
    generalize S[lb]'(by omega) = x at hx
    have hrow := rowP_pl e2 hx
    have hbs : base ≤ w2.heap.size := Nat.le_trans (unhide HH2).low.1 (Nat.le_of_lt (unhide HH2).house.lt)
    have htx := unhide HTM S (List.mem_of_getElem? e2) x (List.mem_of_getElem? hx)
    have HPU := hide (fun (wz : World) (val : Int) (gone : Bool) (hz : Below w2.heap.size w2 wz) => storePut_any base g n S wz lb x who key val gone (hs.calm hz) hl hx htx (Nat.le_trans hbs hz.size) hn8)
    have HFD := hide (fun (wz : World) (hz : Below w2.heap.size w2 wz) => storeFind_any base g n S wz lb x key (hs.calm hz) hl hx hn8)
    have HFIN := hide (fun (w0 w' : World) (es : List Ent) (r : EnR) (h0 : Below w2.heap.size w2 w0) (h1 : r.es = es) (h2 : StoreAt w' base g (S.set lb r)) (h3 : Only (fun k => k = g) w0 w') => show ∃ SS', HouseAt w' base hb sb n c m mc (some ⟨bx, o, none⟩) labs G SS' ∧ plE SS' = setP (plE SS) who lb es ∧ Only (fun k => k ∈ G) w w' from
      have h4 : Only (fun k => k = g) w2 w' := (Only.of_below h0 (fun x h1 h2 => by omega)).trans h3 (fun _ _ h => h)
      ⟨_, (unhide HH2).learn e1 e2 h2 (by simp [hl]) h4, by rw [setP_pl r e2, h1], (Only.of_below (unhide HB2) (fun x h1 h2 => by omega)).trans h4 (fun x _ e => by rw [e]; exact List.mem_of_getElem? e1)⟩)
    rw [hrow] at HFT
    have hwm' : (who : Int) < (m : Int) := by omega
    have hpl : p < w2.heap.size := Nat.lt_of_lt_of_le (unhide HKT).lt hb2.size
    rw [← hw2]
    clear hw2 hb2 t0 t1 t2 t3 t4 t5 y0 y1 hc HIN HTD HTW HTM HH HB e1 e2 hs hl hx hrow htx HKT HW1 HP
    cases hzw : z.testBit who
  · rw [hzw] at HFT
    go_wp2_with fail
    go_ret
    exact turnPost_same (unhide HH2) (unhide HB2) (unhide HFT)
  · rw [hzw] at HFT
    go_upto_region 14 with fail
    go_quiet (fail)
    go_wp2_with fail
    refine (unhide HPU _ _ _ (belowN (Below.refl _ _) _)).mono ?_
    rintro _ w3 ⟨rfl, r, hre, hst, hon, _⟩
    have HE := hide (unhide HFIN _ w3 _ r (belowN (Below.refl _ _) _) hre hst hon)
    clear hre hst hon
    go_wp2_with fail
    go_ret
    unfold TurnPost
    rw [unhide HFT]
    exact ⟨rfl, unhide HE⟩
  · rw [hzw] at HFT
    go_wp2_with fail
    go_ret
    exact turnPost_same (unhide HH2) (unhide HB2) (unhide HFT)
  · rw [hzw] at HFT
    generalize findE x.es key = f at HFD HFT
    obtain ⟨⟨f1, f2, f3, f4, f5⟩, lv⟩ := f
    unfold entV at HFD
    dsimp only at HFD HFT
    go_upto_region 14 with fail
    go_quiet (fail)
    cases lv
    all_goals
      go_wp2_with fail
      refine (unhide HFD _ (belowN (Below.refl _ _) _)).mono ?_
      rintro _ w3 ⟨rfl, hb3⟩
      have hb3' : Below w2.heap.size w2 w3 := (belowN (Below.refl _ _) _).trans hb3
      have r1 := (hb3'.cell (p := ⟨p, 1, none⟩) hpl).trans s1
      have r3 := (hb3'.cell (p := ⟨p, 3, none⟩) hpl).trans s3
      have r4 := (hb3'.cell (p := ⟨p, 4, none⟩) hpl).trans s4
      have HB3 := hide hb3'
      have HB4 := hide ((hb3'.alloc hb3'.size (.cells #[.int .i64 f1, .int .i64 f2, .int .i64 f3, .int .i64 f4, .bool f5] 25)))
      have hp3 : p < w3.heap.size := Nat.lt_of_lt_of_le hpl hb3'.size
      have hp4 : ¬ p = w3.heap.size := by omega
      have hp5 : ¬ w3.heap.size = p := by omega
      clear hb3 hb3'
      go_wp2_with fail
    · go_ret
      exact turnPost_same ((unhide HH2).calm (unhide HB4)) ((unhide HB2).trans ((unhide HB4).mono (unhide HB2).size)) (by rw [unhide HFT, if_neg (by simp), if_neg c8, if_pos (by simp)])
    · refine (unhide HPU _ _ _ (unhide HB4)).mono ?_
      rintro _ w5 ⟨rfl, r, hre, hst, hon, _⟩
      have HE := hide (unhide HFIN _ w5 _ r (unhide HB4) hre hst hon)
      clear hre hst hon
      go_wp2_with fail
      go_ret
      unfold TurnPost
      rw [unhide HFT, if_neg (by simp), if_neg c8, if_neg (by simp)]
      exact ⟨rfl, unhide HE⟩
end Go.Proofs.Ythmnfbnaeggknaa
