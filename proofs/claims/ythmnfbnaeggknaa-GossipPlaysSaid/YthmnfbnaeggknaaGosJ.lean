/- The reference's GossipPlayed. Conditions: none beyond what each theorem states. -/
import Derived.Test.YthmnfbnaeggknaaGosI
namespace Go.Proofs.Ythmnfbnaeggknaa
open Go.RowKit
set_option linter.unusedVariables false

section
variable {w w' : World} {base sb hb ib n c m hc ic : Nat} {A : Option Addr} {X Y : List Nat} {Q : List (List Slot)}
/-- behind a change of a row that is none of the shelves' -/
theorem ShvAt.own (h : ShvAt w base sb hb ib n c m hc ic A X Y Q) {base' : Nat} {e : TypeId} {size k : Nat} {v : Value} {xs : List Value} (hv : w.ownsRow base' e size v k xs) (he : e ≠ 79 ∧ e ≠ 80 ∧ e ≠ 81 ∧ e ≠ 84 ∧ e ≠ 83) (hg : w.grownBy w' v.ownBlock) : ShvAt w' base sb hb ib n c m hc ic A X Y Q := by
  have ho : Only (fun k => v.ownBlock = some k) w w' := (Only.refl _ _).grown hg (fun g hg _ => hg)
  obtain ⟨cs, h1, h2⟩ := h.rowx
  obtain ⟨cs', h3, h4⟩ := h.rowy
  exact ⟨h.n8, h.m8, h.xm, h.ym, h.qm, h.cap, h.shelves.only ho (own_blk_ne hv h.shelves he.1), ⟨cs, h1.only ho (own_blk_ne hv h1 he.2.1), h2⟩, ⟨cs', h3.only ho (own_blk_ne hv h3 he.2.2.1), h4⟩, fun j x y q hx hy hq => (h.st j x y q hx hy hq).only ho (own_blk_ne hv (h.st j x y q hx hy hq).ents he.2.2.2.1) (own_blk_ne hv (h.st j x y q hx hy hq).bits he.2.2.2.2), h.ndx, h.ndy, h.low⟩
theorem own_shelves (h : ShvAt w base sb hb ib n c m hc ic A X Y Q) {base' e size k : Nat} {v : Value} {xs : List Value} (hv : w.ownsRow base' e size v k xs) (he : e ≠ 84 ∧ e ≠ 83) (ho : Only (XY X Y) w w') : w'.ownsRow base' e size v k xs :=
  own_only hv ho fun g hg hd => by
    rcases (XY.ge h hd).2.2 with ⟨cs, hc⟩ | ⟨cs, hc⟩
    · exact own_blk_ne hv hc he.1 (by rw [hg])
    · exact own_blk_ne hv hc he.2 (by rw [hg])
end
/-- a table of entries that is the call's own -/
structure TabOwn (w : World) (base : Nat) (t : TabR) : Prop where
  row : w.ownsRow base 22 1 t.val t.rs.length (t.rs.map EnR.val)
  rows : ∀ r ∈ t.rs, w.ownsRow base 25 5 r.val r.es.length (r.es.flatMap entCells)
section
variable {w w' : World} {base base' : Nat} {t : TabR}
theorem TabOwn.calm (h : TabOwn w base t) (hb : Below w.heap.size w w') : TabOwn w' base t := ⟨own_below' h.row hb, fun r hr => own_below' (h.rows r hr) hb⟩
theorem TabOwn.mono (h : TabOwn w base t) (hb : base' ≤ base) : TabOwn w base' t := ⟨own_mono h.row hb, fun r hr => own_mono (h.rows r hr) hb⟩
theorem TabOwn.own (h : TabOwn w base t) {e size k : Nat} {v : Value} {xs : List Value} (hv : w.ownsRow base' e size v k xs) (he : 22 ≠ e ∧ 25 ≠ e) (hg : w.grownBy w' v.ownBlock) : TabOwn w' base t :=
  ⟨own_grown_far h.row hv he.1 hg, fun r hr => own_grown_far (h.rows r hr) hv he.2 hg⟩
theorem TabOwn.rd (h : TabOwn w base t) : TabRd w w.heap.size t := ⟨Reads.of_own h.row, fun r hr => Reads.of_own (h.rows r hr)⟩
end
/-- three levels that are the call's own -/
def All3 (w : World) (base : Nat) (v : Value) (ts : List TabR) : Prop := w.ownsRow base 57 1 v ts.length (ts.map TabR.val) ∧ ∀ t ∈ ts, TabOwn w base t
theorem All3.calm {w w' : World} {base : Nat} {v : Value} {ts : List TabR} (h : All3 w base v ts) (hb : Below w.heap.size w w') : All3 w' base v ts := ⟨own_below' h.1 hb, fun t ht => (h.2 t ht).calm hb⟩
theorem All3.st3 {w : World} {base : Nat} {v : Value} {ts : List TabR} (h : All3 w base v ts) : St3 w w.heap.size v (ts.map fun t => t.rs.map EnR.es) := by
  obtain ⟨A, c, rfl, hc⟩ := own_slice h.1
  exact ⟨A, c, ts, rfl, Reads.of_own h.1, fun t ht => (h.2 t ht).rd, rfl⟩
set_option maxRecDepth 100000 in
set_option maxHeartbeats 8000000 in
theorem refPlayed_any (b : Int) (A : Option Addr) (n c : Nat) (zs : List Int) (A' : Option Addr) (n' c' : Nat) (ts : List TurnI) (B : Nat) (w : World) (hl : zs.length = n) (hm : n ≤ maxLen) (hr : Reads w B 1 A n (zs.map (.int .i64))) (hm' : n' ≤ maxLen) (hl' : ts.length = n') (hr' : Reads w B 6 A' n' (ts.flatMap turnCells)) (hB : B ≤ w.heap.size) :
    Calls Try.prog 18 #[.int .i64 b, .slice A n c, .slice A' n' c'] w (PlayPost b zs ts w) := by
  unfold maxLen at hm hm'
  have hfin : ∀ (x : Int), playQ b zs ts = (x, [], []) → PlayPost b zs ts w (.returned (.tuple #[.slice none 0 0, .slice none 0 0, .int .i64 x])) w := fun x hp => by
    unfold PlayPost
    rw [hp]
    exact ⟨_, _, rfl, World.ownsRow_nil _ _ _ _, St3.nil _ _, Below.refl _ _⟩
  have HFIN := hide hfin
  clear hfin
  by_cases c1 : b < 1
  · have HP := hide (show playQ b zs ts = (2, [], []) by unfold playQ; rw [if_pos (Or.inl c1)])
    clear hl hr hl' hr' hm hm'
    go_enter Try.func18, Try.ntmps18
    go_wp2_with fail
    go_ret3
    exact unhide HFIN _ (unhide HP)
  by_cases c2 : 8 < b
  · have HP := hide (show playQ b zs ts = (2, [], []) by unfold playQ; rw [if_pos (Or.inr (Or.inl c2))])
    clear hl hr hl' hr' hm hm'
    go_enter Try.func18, Try.ntmps18
    go_wp2_with fail
    go_ret3
    exact unhide HFIN _ (unhide HP)
  obtain ⟨b, rfl⟩ : ∃ z : Nat, b = z := ⟨b.toNat, by omega⟩
  have hb8 : b ≤ 8 := by omega
  have hb1 : 1 ≤ b := by omega
  have hp2 : (2:Int) ^ b ≤ 256 := by
    have hp : (2:Nat) ^ b ≤ 2 ^ 8 := Nat.pow_le_pow_right (by omega) hb8
    have : ((2 ^ b : Nat) : Int) ≤ 256 := by omega
    simpa using this
  have hp3 : (1:Int) ≤ 2 ^ b := by
    have := Nat.two_pow_pos b
    have : (1 : Int) ≤ ((2 ^ b : Nat) : Int) := by omega
    simpa using this
  have c1' : decide ((b : Int) < 1) = false := by simp; omega
  have c2' : decide ((8 : Int) < (b : Int)) = false := by simp; omega
  have HL := hide hl
  have HL' := hide hl'
  have HR := hide (hr.more hB)
  have HR' := hide (hr'.more hB)
  clear hl hr hl' hr' c1 c2
  go_enter Try.func18, Try.ntmps18
  go_wp2_with fail
  go_loop [27] (fun i => ∃ (k : Nat), k ≤ n ∧ i = .int .i64 k ∧ Hid ((zs.drop k).any (badLb b) = zs.any (badLb b))) (fun i => n - (intOf i).toNat)
  case atStart => exact ⟨0, Nat.zero_le _, rfl, rfl⟩
  case round =>
    obtain ⟨k, hk, rfl, HX⟩ := hrel
    by_cases hlt : k < n
    · obtain ⟨b1, o1, z, rfl, hbl, hz, hcz⟩ := at_num (unhide HR) hlt
      have HX2 := hide (by have h := unhide HX; rw [drop_cons zs k z hz, List.any_cons] at h; exact h)
      clear HX hz
      by_cases hz0 : z < 0
      · have HP := hide (show playQ b zs ts = (2, [], []) by unfold playQ; rw [if_pos (Or.inr (Or.inr (by rw [← unhide HX2]; simp [badLb, hz0])))])
        go_wp2_with fail
        go_ret3
        exact unhide HFIN _ (unhide HP)
      by_cases hz1 : (2:Int) ^ b ≤ z
      · have HP := hide (show playQ b zs ts = (2, [], []) by unfold playQ; rw [if_pos (Or.inr (Or.inr (by rw [← unhide HX2]; simp [badLb, hz1])))])
        have hz0' : 0 ≤ z := by omega
        go_wp2_with fail
        go_ret3
        exact unhide HFIN _ (unhide HP)
      have hz0' : 0 ≤ z := by omega
      have hz1' : z < (2:Int) ^ b := by omega
      have HX3 := hide (show (zs.drop (k + 1)).any (badLb b) = zs.any (badLb b) by rw [← unhide HX2]; simp [badLb, hz0, hz1])
      clear HX2 hz0 hz1
      go_wp2_with fail
      go_round
      case rel => exact ⟨k + 1, by omega, by go_num, HX3⟩
      case measure => simp [intOf]; omega
    · obtain rfl : k = n := by omega
      have hbad : zs.any (badLb b) = false := by
        have h := unhide HX
        rw [List.drop_of_length_le (by rw [unhide HL]; exact Nat.le_refl _)] at h
        exact h.symm
      by_cases d1 : 4 < k
      · have HP := hide (show playQ b zs ts = (1, [], []) by unfold playQ; rw [if_neg (by rw [hbad]; simp; omega), if_pos (Or.inl (by rw [unhide HL]; exact d1))])
        clear hbad
        go_wp2_with fail
        go_ret3
        exact unhide HFIN _ (unhide HP)
      by_cases d2 : 300 < n'
      · have HP := hide (show playQ b zs ts = (1, [], []) by unfold playQ; rw [if_neg (by rw [hbad]; simp; omega), if_pos (Or.inr (by rw [unhide HL']; exact d2))])
        clear hbad
        go_wp2_with fail
        go_ret3
        exact unhide HFIN _ (unhide HP)
      obtain ⟨hze, hzl⟩ := labs_ok b hb8 zs hbad
      obtain ⟨labs, hlabs⟩ : ∃ labs, labs = zs.map Int.toNat := ⟨_, rfl⟩
      rw [← hlabs] at hze hzl
      have hll : labs.length = k := by rw [hlabs, List.length_map, unhide HL]
      have hLab : LabsAt w w.heap.size k A labs := ⟨by have := unhide HR; rw [hze, List.map_map] at this; exact this, hll, hzl⟩
      have hfin : playQ b zs ts = (0, (runQ b labs ts (newQ b k)).1, (runQ b labs ts (newQ b k)).2) := by
        unfold playQ
        rw [if_neg (by rw [hbad]; simp; omega), if_neg (by rw [unhide HL, unhide HL']; omega), Int.toNat_natCast, ← hlabs, unhide HL]
      have HFI := hide hfin
      have HLAB := hide hLab
      have HLL := hide hll
      have HNS := hide (newShelves_any A k c b w (by omega) (by omega) hb1)
      have d1' : k ≤ 4 := by omega
      have d2' : n' ≤ 300 := by omega
      have d3 : decide ((4 : Int) < (k : Int)) = false := by simp; omega
      have d4 : decide ((300 : Int) < (n' : Int)) = false := by simp; omega
      obtain ⟨iE, hiE, hzE, hsE, hyE⟩ := errno_info
      obtain ⟨iR, hiR, hzR, hsR, hyR⟩ := rows_info
      obtain ⟨iL, hiL, hzL, hsL, hyL⟩ : ∃ i, Try.prog.info? 22 = some i ∧ i.zero = some (.slice none 0 0) ∧ i.size = 1 ∧ i.bytes = 24 := info_of (by kernel_rfl)
      clear hbad hze hzl hlabs hll hLab hfin HX hlt
      go_upto_region 11 with fail
      go_wp2_with fail
      refine (unhide HNS).mono ?_
      rintro _ w1 ⟨sb, hb, ib, hc, ic, X, Y, rfl, hS1, hz1⟩
      have HS1 := hide hS1
      clear hS1
      go_wp2_with fail
      go_loopw [12, 53] (fun o j W => ∃ (i : Nat), i ≤ n' ∧ j = .int .i64 i ∧ Hid (ShvAt W w.heap.size sb hb ib k c b hc ic A X Y (runQ b labs (ts.take i) (newQ b k)).2) ∧ Hid (W.ownsRow w.heap.size 27 1 o i ((runQ b labs (ts.take i) (newQ b k)).1.map (.int .i64))) ∧ Below w.heap.size w W) (fun _ j _ => n' - (intOf j).toNat)
      case atStart => exact ⟨0, Nat.zero_le _, rfl, HS1, World.ownsRow_nil _ _ _ _, hz1⟩
      case round =>
        obtain ⟨i, hi, rfl, HR2, HO, hzk⟩ := hrel
        by_cases hin : i < n'
        · obtain ⟨bt, ot, t, rfl, _, ht, hct⟩ := at_row turnCells_len (by omega) ((unhide HR').below hzk) hin (unhide HL')
          have z0 : wr.cell? ⟨bt, ot + i * 6, none⟩ = some (.int .i64 t.kind) := hct 0 _ rfl
          have z1 : wr.cell? ⟨bt, ot + i * 6 + 1, none⟩ = some (.int .i64 t.who) := hct 1 _ rfl
          have z2 : wr.cell? ⟨bt, ot + i * 6 + 2, none⟩ = some (.int .i64 t.dst) := hct 2 _ rfl
          have z3 : wr.cell? ⟨bt, ot + i * 6 + 3, none⟩ = some (.int .i64 t.label) := hct 3 _ rfl
          have z4 : wr.cell? ⟨bt, ot + i * 6 + 4, none⟩ = some (.int .i64 t.key) := hct 4 _ rfl
          have z5 : wr.cell? ⟨bt, ot + i * 6 + 5, none⟩ = some (.int .i64 t.value) := hct 5 _ rfl
          have hg := runQ_good hb8 labs (unhide HLL) (ts.take i) 0 (newQ b k) (newQ_good b k) (Int.le_refl _) (by rw [List.length_take]; omega)
          have htk : (ts.take i).length = i := by rw [List.length_take]; have := unhide HL'; omega
          rw [htk] at hg
          have hsn := runQ_snoc b labs t (ts.take i) (newQ b k)
          rw [← take_snoc ts i t ht] at hsn
          obtain ⟨w3, hw3⟩ : ∃ w3, w3 = wr.alloc (.cells (turnC t) 60) := ⟨_, rfl⟩
          have hb3 : Below wr.heap.size wr w3 := by rw [hw3]; exact (Below.refl _ _).alloc (Nat.le_refl _) _
          have k3 : Blk w3 wr.heap.size 60 (turnC t) := by rw [hw3]; exact Blk.new _ _ _
          have hz3 := hzk.trans (hb3.mono hzk.size)
          have hS3 := (unhide HR2).calm hb3
          have HTU := hide (refTurn_any w.heap.size sb hb ib k c b hc ic A X Y _ labs w3 _ t hS3 (⟨(unhide HLAB).rd.below hz3, (unhide HLAB).ln, (unhide HLAB).lb⟩ : LabsAt w3 w.heap.size k A labs) hg (by omega) hb8)
          have HS3 := hide hS3
          have HSN := hide hsn
          have HO3 := hide (own_below' (unhide HO) hb3)
          have HZ3 := hide hz3
          have HW3 := hide hw3
          have x0 : w3.cell? ⟨wr.heap.size, 0, none⟩ = some (.int .i64 t.kind) := k3.cell 0
          have x1 : w3.cell? ⟨wr.heap.size, 1, none⟩ = some (.int .i64 t.who) := k3.cell 1
          have x2 : w3.cell? ⟨wr.heap.size, 2, none⟩ = some (.int .i64 t.dst) := k3.cell 2
          have x3 : w3.cell? ⟨wr.heap.size, 3, none⟩ = some (.int .i64 t.label) := k3.cell 3
          have x4 : w3.cell? ⟨wr.heap.size, 4, none⟩ = some (.int .i64 t.key) := k3.cell 4
          have x5 : w3.cell? ⟨wr.heap.size, 5, none⟩ = some (.int .i64 t.value) := k3.cell 5
          obtain ⟨kind, who, dst, label, key, value⟩ := t
          generalize (turnQ b labs { kind := kind, who := who, dst := dst, label := label, key := key, value := value } (runQ b labs (ts.take i) (newQ b k)).2) = rq at *
          unfold turnC at HTU HW3
          dsimp only at z0 z1 z2 z3 z4 z5 x0 x1 x2 x3 x4 x5 HTU HW3
          have hin' : (i : Int) < (n' : Int) := by omega
          clear hct ht hg htk hsn hw3 hb3 k3 hz3 hS3
          go_upto_region 16 with fail
          rw [← unhide HW3]
          go_wp2_with fail
          refine (unhide HTU).mono ?_
          rintro _ w4 ⟨rfl, hs4', ho4⟩
          have HO4 := hide (own_shelves (unhide HS3) (unhide HO3) (by decide) ho4)
          have HZ4 := hide (Below.only (unhide HZ3) ho4 (fun x hx hd => by have := (XY.ge (unhide HS3) hd).1; omega) (unhide HZ3).size)
          obtain ⟨AO, cO, rfl, hcO⟩ := own_slice (unhide HO4)
          have HS4 := hide hs4'
          have hmq : (i + 1) * 8 ≤ 140737488355328 := by omega
          have hs4 := (unhide HZ4).size
          clear hs4' ho4 x0 x1 x2 x3 x4 x5 z0 z1 z2 z3 z4 z5
          go_wp2_with (first
            | (at_builtin; (refine wpList_append_new w4 rfl (.tmp 57) (.tmp 62) _ rfl w.heap.size 27 iE _ 1 8 Try.underlying34 hiE hzE hsE hyE rfl (by omega) (by omega) _ _ _ (unhide HO4) rfl _ 1 _ rfl rfl rfl (by simp [Value.oneCell']) hmq hs4 ?_); intro g7 cap7 w7 hg7 hown7 hbel7 hgr7 hat7; have HB7 := hide (hbel7 w.heap.size w (Nat.le_refl _) (unhide HZ4)); have HH7 := hide ((unhide HS4).own (unhide HO4) (by decide) hgr7); have HO7 := hide hown7; clear hg7 hown7 hbel7 hgr7 hat7))
          go_roundw
          case rel => exact ⟨i + 1, by omega, by go_num, hide (by rw [unhide HSN]; exact unhide HH7), hide (by rw [unhide HSN]; simpa using unhide HO7), unhide HB7⟩
          case measure => simp [intOf]; omega
        · obtain rfl : i = n' := by omega
          rw [List.take_of_length_le (by rw [unhide HL']; exact Nat.le_refl _)] at HR2 HO
          have HGD := hide (runQ_good hb8 labs (unhide HLL) ts 0 (newQ b k) (newQ_good b k) (Int.le_refl _) (by rw [unhide HL']; omega))
          obtain ⟨QQ, hQQ⟩ : ∃ QQ, QQ = (runQ b labs ts (newQ b k)).2 := ⟨_, rfl⟩
          rw [← hQQ] at HR2 HGD
          have HQQ := hide hQQ
          clear hQQ
          go_wp2_with fail
          go_loopw [15, 16, 17, 72] (fun o j v17 v72 W => ∃ (q : Nat) (tt : List TabR), q ≤ b ∧ j = .int .i64 q ∧ Hid (tt.length = q) ∧ Hid (tt.map (fun t => t.rs.map EnR.es) = (plQ k QQ).take q) ∧ Hid (ShvAt W w.heap.size sb hb ib k c b hc ic A X Y QQ) ∧ Hid (W.ownsRow w.heap.size 27 1 u12 i ((runQ b labs ts (newQ b k)).1.map (.int .i64))) ∧ Hid (All3 W w.heap.size o tt) ∧ Below w.heap.size w W) (fun _ j _ _ _ => b - (intOf j).toNat)
          case atStart => exact ⟨0, [], Nat.zero_le _, rfl, hide rfl, hide rfl, HR2, HO, hide ⟨World.ownsRow_nil _ _ _ _, fun t h => by simp at h⟩, hzk⟩
          case round =>
            obtain ⟨q, tt, hq, rfl, HTL, HTE, HRq, HOq, HAq, hzq⟩ := hrel
            by_cases hqb : q < b
            · obtain ⟨qk, hqk⟩ : ∃ qk, QQ[q]? = some qk := ⟨_, List.getElem?_eq_getElem (by rw [(unhide HGD).len]; exact hqb)⟩
              have HQK := hide hqk
              have HTK := hide (take_snoc (plQ k QQ) q (rowsQ k qk) (by unfold plQ; rw [List.getElem?_map, hqk]; rfl))
              have hqb' : (q : Int) < (b : Int) := by omega
              clear hqk
              rename World => W0
              go_wp2_with fail
              go_loopw [17, 72] (fun v j W => ∃ (l : Nat) (rs : List EnR), l ≤ k ∧ j = .int .i64 l ∧ Hid (rs.length = l) ∧ Hid (rs.map EnR.es = (rowsQ k qk).take l) ∧ Hid (W.ownsRow W0.heap.size 22 1 v l (rs.map EnR.val)) ∧ Hid (∀ r ∈ rs, W.ownsRow W0.heap.size 25 5 r.val r.es.length (r.es.flatMap entCells)) ∧ Below W0.heap.size W0 W) (fun _ j _ => k - (intOf j).toNat)
              case atStart => exact ⟨0, [], Nat.zero_le _, rfl, hide rfl, hide rfl, World.ownsRow_nil _ _ _ _, hide (fun r h => by simp at h), Below.refl _ _⟩
              case round =>
                obtain ⟨l, rs, hlk, rfl, HRL, HRE, HMI, HRO, hzl⟩ := hrel
                by_cases hl : l < k
                · have HLI := hide (shvList_any w.heap.size sb hb ib k c b hc ic A X Y QQ wr q l qk ((unhide HRq).calm hzl) hqb hl (unhide HQK))
                  have HTL2 := hide (take_snoc (rowsQ k qk) l _ (rowsQ_get k qk l hl))
                  have hll8 := lsS_len (rowQ qk l)
                  rw [rowQ_len qk l k ((unhide HGD).each qk (List.mem_of_getElem? (unhide HQK))).1 hl] at hll8
                  obtain ⟨L, hL⟩ : ∃ L, L = lsS (rowQ qk l) := ⟨_, rfl⟩
                  rw [← hL] at HLI HTL2 hll8
                  have hlk' : (l : Int) < (k : Int) := by omega
                  clear hL
                  go_wp2_with fail
                  refine (unhide HLI).mono ?_
                  rintro _ w5 ⟨v5, rfl, hown5, hb5⟩
                  obtain ⟨A5, c5, rfl, _⟩ := own_slice hown5
                  have HMI5 := hide (own_below' (unhide HMI) hb5)
                  have HRO5 := hide (fun r hr => own_below' (unhide HRO r hr) hb5)
                  have HN5 := hide (own_mono hown5 hzl.size)
                  have hz5 : Below W0.heap.size W0 w5 := hzl.trans (hb5.mono hzl.size)
                  obtain ⟨AM, cM, rfl, _⟩ := own_slice (unhide HMI5)
                  have hmq : (l + 1) * 24 ≤ 140737488355328 := by omega
                  have hs5 := hz5.size
                  clear hown5 hb5
                  go_wp2_with (first
                    | (at_builtin; (refine wpList_append_new w5 rfl (.tmp 75) (.tmp 80) _ rfl W0.heap.size 22 iL _ 1 24 Try.underlying57 hiL hzL hsL hyL rfl (by omega) (by omega) _ _ _ (unhide HMI5) rfl _ 1 _ rfl rfl rfl (by simp [Value.oneCell']) hmq hs5 ?_); intro g7 cap7 w7 hg7 hown7 hbel7 hgr7 hat7; have HB7 := hide (hbel7 W0.heap.size W0 (Nat.le_refl _) hz5); have HRO7 := hide (fun r hr => own_grown_far (unhide HRO5 r hr) (unhide HMI5) (by decide) hgr7); have HN7 := hide (own_grown_far (unhide HN5) (unhide HMI5) (by decide) hgr7); have HO7 := hide hown7; clear hg7 hown7 hbel7 hgr7 hat7))
                  go_roundw
                  case rel => exact ⟨l + 1, rs ++ [⟨L, A5, c5⟩], by omega, by go_num, hide (by simp [unhide HRL]), hide (by rw [List.map_append, unhide HRE, unhide HTL2]; rfl), hide (by rw [List.map_append]; exact unhide HO7), hide (fun r hr => by rcases List.mem_append.1 hr with h1 | h1; exact unhide HRO7 r h1; rw [List.mem_singleton] at h1; rw [h1]; exact unhide HN7), unhide HB7⟩
                  case measure => simp [intOf]; omega
                · obtain rfl : l = k := by omega
                  have hA6 := (unhide HAq).calm hzl
                  obtain ⟨AM, cM, rfl, hcM⟩ := own_slice (unhide HMI)
                  obtain ⟨AA, cA, rfl, hcA⟩ := own_slice hA6.1
                  have hTO : TabOwn wr W0.heap.size ⟨rs, AM, cM⟩ := ⟨by unfold TabR.val; dsimp only; rw [unhide HRL]; exact unhide HMI, unhide HRO⟩
                  have HTO := hide (hTO.mono hzq.size)
                  have HA6 := hide hA6
                  have HS6 := hide ((unhide HRq).calm hzl)
                  have HC6 := hide (own_below' (unhide HOq) hzl)
                  have hz6 : Below w.heap.size w wr := hzq.trans (hzl.mono hzq.size)
                  have hmq : (tt.length + 1) * 24 ≤ 140737488355328 := by have := unhide HTL; omega
                  have hs6 := hz6.size
                  have HTV := hide (show TabR.val ⟨rs, AM, cM⟩ = .slice AM l cM by unfold TabR.val; dsimp only; rw [unhide HRL])
                  have HQL := hide (show (rowsQ l qk).take l = rowsQ l qk from List.take_of_length_le (by simp [rowsQ]))
                  clear hTO hA6
                  go_wp2_with (first
                    | (at_builtin; (refine wpList_append_new _ rfl (.tmp 83) (.tmp 85) _ rfl w.heap.size 57 iR _ 1 24 Try.underlying35 hiR hzR hsR hyR rfl (by omega) (by omega) _ _ _ (unhide HA6).1 rfl _ 1 _ rfl rfl rfl (by simp [Value.oneCell']) hmq hs6 ?_); intro g7 cap7 w7 hg7 hown7 hbel7 hgr7 hat7; have HB7 := hide (hbel7 w.heap.size w (Nat.le_refl _) hz6); have HS7 := hide ((unhide HS6).own (unhide HA6).1 (by decide) hgr7); have HC7 := hide (own_grown_far (unhide HC6) (unhide HA6).1 (by decide) hgr7); have HT7 := hide ((unhide HTO).own (unhide HA6).1 (by decide) hgr7); have HTT := hide (fun t ht => ((unhide HA6).2 t ht).own (unhide HA6).1 (by decide) hgr7); have HO7 := hide hown7; clear hg7 hown7 hbel7 hgr7 hat7))
                  go_roundw
                  case rel => exact ⟨q + 1, tt ++ [⟨rs, AM, cM⟩], by omega, by go_num, hide (by simp [unhide HTL]), hide (by rw [List.map_append, unhide HTE, unhide HTK, List.map_singleton]; dsimp only; rw [unhide HRE, unhide HQL]), HS7, HC7, hide (by
                    refine ⟨?_, fun t ht => ?_⟩
                    · have h := unhide HO7
                      rw [List.length_append, List.map_append, List.map_singleton, unhide HTV]
                      exact h
                    · rcases List.mem_append.1 ht with h1 | h1
                      · exact unhide HTT t h1
                      · rw [List.mem_singleton] at h1; rw [h1]; exact unhide HT7), unhide HB7⟩
                  case measure => simp [intOf]; omega
            · obtain rfl : q = b := by omega
              go_wp2_with fail
              go_ret3
              unfold PlayPost
              rw [unhide HFI]
              refine ⟨u12, _, rfl, ?_, ?_, hzq⟩
              · rw [runQ_len, unhide HL']; exact unhide HOq
              · have h3 := (unhide HAq).st3
                rw [unhide HTE, List.take_of_length_le (by unfold plQ; rw [List.length_map, (unhide HGD).len]; exact Nat.le_refl _), unhide HQQ] at h3
                rw [unhide HL]
                exact h3
end Go.Proofs.Ythmnfbnaeggknaa
