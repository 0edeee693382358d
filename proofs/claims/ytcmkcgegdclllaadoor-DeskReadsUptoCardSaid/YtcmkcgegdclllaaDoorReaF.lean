/- Contract of desk.Read. Conditions: none beyond what each theorem states. -/
import Derived.Test.YtcmkcgegdclllaaDoorReaE
import Derived.Test.YtcmkcgegdclllaaDoorReaC
namespace Go.Proofs.YtcmkcgegdclllaaDoor
open Go.RowKit
set_option linter.unusedVariables false

/-- the loop over the letters -/
structure RdAt (w w7 W : World) (q r m i : Nat) (G : ByteArray) (ws : List (List UInt8)) (ns : List Int) : Prop where
  it : IterAt W r G i
  on : Only (fun k => k = q) w7 W
  kq : Blk W q 29 (stpC (putS (zeroS m) ((selL m).take i) ns))
  be : Below w.heap.size w W
  len : ns.length = i
  i64 : ∀ n ∈ ns, I64 n
  num : ∀ j n, ns[j]? = some n → ws[j + 1]? = some (Lib.itoa n)
theorem put_eight (m : Nat) (sel : List Nat) (ns : List Int) : ∃ x0 x1 x2 x3 x4 x5 x6 x7, putS (zeroS m) sel ns = [x0, x1, x2, x3, x4, x5, x6, x7] := by
  have h : (putS (zeroS m) sel ns).length = 8 := by rw [len_putS]; rfl
  generalize putS (zeroS m) sel ns = l at h
  match l, h with
  | [a, b, c, d, e, f, g, h], _ => exact ⟨a, b, c, d, e, f, g, h, rfl⟩
theorem zero_size (m : Nat) : (stpC (zeroS m)).size = 8 := by simp [stpC, zeroS]
def ProgPost (L : List UInt8) (w : World) (e : Ending) (w' : World) : Prop :=
  ∃ xs c, e = .returned (.tuple #[stpV xs, .int .i64 c]) ∧ AnsAt L xs c ∧ xs.length = 8 ∧ Below w.heap.size w w'
/-- the parts of the line in memory -/
structure PartsAt (w : World) (pb : Nat) (ws : List (List UInt8)) : Prop where
  lt : pb < w.heap.size
  row : ∃ sb, w.cell? ⟨pb, 0, none⟩ = some (.slice (some ⟨sb, 0, none⟩) ws.length ws.length) ∧ sb < w.heap.size ∧ ∀ (j : Nat) x, ws[j]? = some x → w.cell? ⟨sb, j, none⟩ = some (.string (bstr x))
theorem PartsAt.below {w w' : World} {pb : Nat} {ws : List (List UInt8)} (h : PartsAt w pb ws) (hb : Below w.heap.size w w') : PartsAt w' pb ws := by
  obtain ⟨lt, sb, h1, h3, h4⟩ := h
  exact ⟨Nat.lt_of_lt_of_le lt hb.size, sb, (hb.cell (p := ⟨pb, 0, none⟩) lt).trans h1, Nat.lt_of_lt_of_le h3 hb.size, fun j x hj => (hb.cell (p := ⟨sb, j, none⟩) h3).trans (h4 j x hj)⟩
theorem PartsAt.head {w : World} {pb : Nat} {ws : List (List UInt8)} (h : PartsAt w pb ws) {x : List UInt8} (hx : ws[0]? = some x) : Part0 w pb x := by
  obtain ⟨lt, sb, h1, h3, h4⟩ := h
  exact ⟨lt, sb, _, _, h1, (List.getElem?_eq_some_iff.1 hx).1, h3, h4 0 x hx⟩
/-- the same, below a bound -/
structure PartsB (w : World) (B pb : Nat) (ws : List (List UInt8)) : Prop where
  lt : pb < B
  row : ∃ sb, w.cell? ⟨pb, 0, none⟩ = some (.slice (some ⟨sb, 0, none⟩) ws.length ws.length) ∧ sb < B ∧ ∀ (j : Nat) x, ws[j]? = some x → w.cell? ⟨sb, j, none⟩ = some (.string (bstr x))
theorem PartsAt.toB {w : World} {pb : Nat} {ws : List (List UInt8)} (h : PartsAt w pb ws) : PartsB w w.heap.size pb ws := ⟨h.lt, h.row⟩
theorem PartsB.below {w w' : World} {B pb : Nat} {ws : List (List UInt8)} (h : PartsB w B pb ws) (hb : Below B w w') : PartsB w' B pb ws := by
  obtain ⟨lt, sb, h1, h3, h4⟩ := h
  exact ⟨lt, sb, (hb.cell (p := ⟨pb, 0, none⟩) lt).trans h1, h3, fun j x hj => (hb.cell (p := ⟨sb, j, none⟩) h3).trans (h4 j x hj)⟩
theorem putS_snoc (j : Nat) (v : Int) : ∀ (l : List Nat) (xs ns : List Int), ns.length = l.length → putS xs (l ++ [j]) (ns ++ [v]) = (putS xs l ns).set j v
  | [], xs, [], _ => by simp [putS]
  | [], xs, n :: ns, h => by simp at h
  | k :: l, xs, [], h => by simp at h
  | k :: l, xs, n :: ns, h => by
    simp only [List.cons_append, putS]
    exact putS_snoc j v l _ ns (by simpa using h)
theorem bstr_inj {a b : List UInt8} (h : bstr a = bstr b) : a = b := by
  have := congrArg (fun s : ByteArray => s.data.toList) h
  simpa [bstr] using this
theorem bstr_data (y : List UInt8) : (bstr y).data.toList = y := by simp [bstr]
theorem norep_word {L y : List UInt8} {i : Nat} (hy : (cutL L)[i + 1]? = some y) (hno : ∀ v, Lib.atoiAll y = .ok v → Lib.itoa v ≠ y) : ∀ m ns, ¬ RepL L m ns := by
  rintro m ns ⟨h1, h2, h3, h4⟩
  rw [h4, List.getElem?_cons_succ] at hy
  obtain ⟨n, hn, rfl⟩ := List.mem_map.1 (List.mem_of_getElem? hy)
  exact hno n (atoi_itoa n (h3 n hn).1 (h3 n hn).2) rfl
set_option maxRecDepth 100000 in
set_option maxHeartbeats 4000000 in
theorem read_any (L : List UInt8) (w : World) (hL : L.length ≤ 1048576) (hT : TabR w) :
    Calls Tryd.prog 11 #[.string (bstr L)] w (ProgPost L w) := by
  obtain ⟨wx, hwx⟩ : ∃ wx, wx = w.alloc (.cells zerC 29) := ⟨_, rfl⟩
  obtain ⟨p, hp⟩ : ∃ p, p = w.heap.size := ⟨_, rfl⟩
  have hb1 := (show Below w.heap.size w wx by rw [hwx]; exact (Below.refl _ _).alloc (Nat.le_refl _) _)
  have HKX := hide (show Blk wx p 29 zerC by rw [hwx, hp]; exact Blk.new _ _ _)
  have HS := hide (split_any L wx hL (hT.below hb1))
  obtain ⟨ws, hws⟩ : ∃ ws, ws = cutL L := ⟨_, rfl⟩
  rw [← hws] at HS
  obtain ⟨x0, hx0⟩ : ∃ x, ws[0]? = some x := ⟨ws[0]'(by rw [hws, cut_len]; omega), List.getElem?_eq_getElem _⟩
  obtain ⟨S, hSS⟩ : ∃ S, S = bstr L := ⟨_, rfl⟩
  rw [← hSS] at HS ⊢
  have HX0 := hide hx0
  have HWS := hide hws
  have HSS := hide hSS
  have HP := hide hp
  have HWX := hide hwx
  have HB1 := hide hb1
  have HT := hide hT
  have HLN := hide hL
  clear hx0 hws hSS hp hwx hb1 hT hL
  go_enter Tryd.func11, Tryd.ntmps11
  go_upto_region 1 with fail
  rw [show (#[.int .i64 0, .int .i64 0, .int .i64 0, .int .i64 0, .int .i64 0, .int .i64 0, .int .i64 0, .int .i64 0] : Array Value) = zerC from rfl, ← unhide HP, ← unhide HWX]
  go_upto_region 2 with (refine (unhide HS).mono ?_; rintro _ _ ⟨rfl, rfl⟩)
  obtain ⟨b1, hb1⟩ : ∃ b1, b1 = wx.heap.size := ⟨_, rfl⟩
  obtain ⟨w3, hw3⟩ : ∃ w3, w3 = (wx.alloc (.cells (ws.map fun x => Value.string (bstr x)).toArray 9)).alloc (.cells #[.slice (some ⟨b1, 0, none⟩) ws.length ws.length] 42) := ⟨_, rfl⟩
  rw [← hb1, ← hw3]
  have hbx3 := (show Below wx.heap.size wx w3 by rw [hw3]; exact ((Below.refl _ _).alloc (Nat.le_refl _) _).alloc (by simp) _)
  have kr := (show Blk w3 b1 9 (ws.map fun x => Value.string (bstr x)).toArray by rw [hw3, hb1]; exact (Blk.new _ _ _).alloc _)
  have kv := (show Blk w3 (b1 + 1) 42 #[.slice (some ⟨b1, 0, none⟩) ws.length ws.length] by
    rw [hw3, hb1]
    have h := Blk.new (wx.alloc (.cells (ws.map fun x => Value.string (bstr x)).toArray 9)) 42 #[.slice (some ⟨wx.heap.size, 0, none⟩) ws.length ws.length]
    simpa using h)
  have HPT := hide (show PartsAt w3 (b1 + 1) ws from ⟨kv.lt, b1, kv.cell 0, kr.lt, fun j x hj => (kr.cell j).trans (by simp [hj])⟩)
  have HK3 := hide ((unhide HKX).below hbx3 (unhide HKX).lt)
  have HB3 := hide ((unhide HB1).trans (hbx3.mono (unhide HB1).size))
  have HT3 := hide ((unhide HT).below (unhide HB3))
  have HIX := hide (wordIndex_any x0 (b1 + 1) w3 ((unhide HPT).head (unhide HX0)) (unhide HT3).words)
  obtain ⟨pb, hpb⟩ : ∃ pb, pb = b1 + 1 := ⟨_, rfl⟩
  rw [← hpb] at HPT HIX ⊢
  have HPB := hide (show w.heap.size ≤ pb by have := (unhide HB1).size; omega)
  clear hb1 hw3 hbx3 kr kv hpb HS HB1
  go_upto_region 3 with (refine (unhide HIX).mono ?_; rintro _ w4 ⟨r, rfl, hr, hb4⟩)
  have HPT4 := hide ((unhide HPT).below hb4)
  have HK4 := hide ((unhide HK3).below hb4 (unhide HK3).lt)
  have HB4 := hide ((unhide HB3).trans (hb4.mono (unhide HB3).size))
  have HT4 := hide ((unhide HT).below (unhide HB4))
  clear hb4 HIX HPT HK3 HB3 HT3
  rcases hr with ⟨m, hm, hmx, rfl⟩ | ⟨rfl, hno⟩
  · have HMX := hide hmx
    have hms := (unhide HT4).tab.word m hm
    have w1 := hms.2
    have hsz : (bstr (signL m)).size = (selL m).length := by rw [bstr_size]; unfold signL; rw [List.length_map]
    obtain ⟨lt, sb, h1, h3, h4⟩ := unhide HPT4
    obtain ⟨n, hn⟩ : ∃ n, n = ws.length := ⟨_, rfl⟩
    obtain ⟨l, hl⟩ : ∃ l, l = (selL m).length := ⟨_, rfl⟩
    have hl4 : l ≤ 4 := by rw [hl]; exact (wordT_facts ⟨m, hm⟩).2.1
    obtain ⟨G, hG⟩ : ∃ G, G = bstr (signL m) := ⟨_, rfl⟩
    rw [← hG] at w1 hsz
    rw [← hl] at hsz
    rw [← hn] at h1
    have hm0 : decide ((m : Int) < 0) = false := by simp
    have hmI : (m : Int) < 11 := by omega
    have HN := hide hn
    have HLL := hide hl
    have HGG := hide hG
    have HM := hide hm
    have HNO := hide (show n ≠ l + 1 → ∀ m' ns, ¬ RepL L m' ns from fun hne m' ns hr => by
      obtain ⟨h1, h2, _, h4⟩ := hr
      rw [← unhide HWS] at h4
      have h5 := unhide HX0
      rw [h4] at h5
      have h6 : wordL m' = x0 := by simpa using h5
      have h7 := wordL_inj ⟨m, hm⟩ ⟨m', h1⟩ (hmx.trans h6.symm)
      have h8 : m = m' := by simpa using h7
      subst h8
      apply hne
      rw [hn, hl, h4, ← h2]
      simp)
    clear hn hl hG hmx hms h3 h4 lt hm
    by_cases hlen : n = l + 1
    · have hne : ((n : Int) != (l : Int) + 1) = false := by simp; omega
      have HLEN := hide hlen
      clear hlen
      go_quiet (fail)
      have HT5 := hide ((unhide HT4).below (below_drewN (Below.refl _ _) nq))
      have HPT5 := hide ((unhide HPT4).below (below_drewN (Below.refl _ _) nq))
      have HK5 := hide ((unhide HK4).drewN nq)
      have HB5 := hide (below_drewN (unhide HB4) nq)
      generalize w4.drewN nq = w5 at HK5 HB5 HT5 HPT5 ⊢
      clear hm0 hne h1 w1 HNO
      go_upto_region 6 with fail
      obtain ⟨q, hq⟩ : ∃ q, q = w5.heap.size := ⟨_, rfl⟩
      obtain ⟨w6, hw6⟩ : ∃ w6, w6 = w5.alloc (.cells (stpC (zeroS m)) 29) := ⟨_, rfl⟩
      rw [show (#[.int .i64 (1 + (m : Int)), .int .i64 0, .int .i64 0, .int .i64 0, .int .i64 0, .int .i64 0, .int .i64 0, .int .i64 0] : Array Value) = stpC (zeroS m) by simp [stpC, zeroS, Int.add_comm], ← hq, ← hw6]
      have hb6 := (show Below w5.heap.size w5 w6 by rw [hw6]; exact (Below.refl _ _).alloc (Nat.le_refl _) _)
      have HKQ := hide (show Blk w6 q 29 (stpC (zeroS m)) by rw [hw6, hq]; exact Blk.new _ _ _)
      have HPT6 := hide ((unhide HPT5).below hb6)
      have HK6 := hide ((unhide HK5).below hb6 (unhide HK5).lt)
      have HB6 := hide ((unhide HB5).trans (hb6.mono (unhide HB5).size))
      have HQW := hide (show w.heap.size ≤ q ∧ p < q by rw [hq]; exact ⟨(unhide HB5).size, (unhide HK5).lt⟩)
      have HFL := hide (fields_any q _ w6 (unhide HKQ) (zero_size m))
      have HPQ := hide (show PartsB w6 q pb ws by rw [hq]; exact (unhide HPT5).toB.below hb6)
      clear hq hw6 hb6
      go_wp2_with fail
      refine (unhide HFL).mono ?_
      rintro _ w7 ⟨bm, nf, rfl, hnf, hfm, hb7, hbm⟩
      have HPT7 := hide ((unhide HPT6).below hb7)
      have HPQ7 := hide ((unhide HPQ).below (hb7.mono (Nat.le_of_lt (unhide HKQ).lt)))
      have HK7 := hide ((unhide HK6).below hb7 (unhide HK6).lt)
      have HKQ7 := hide ((unhide HKQ).below hb7 (unhide HKQ).lt)
      have HB7 := hide ((unhide HB6).trans (hb7.mono (unhide HB6).size))
      have HT7 := hide ((unhide HT).below (unhide HB7))
      have HFM := hide hfm
      have HBM := hide (show q < bm from Nat.lt_of_lt_of_le (unhide HKQ).lt hbm)
      clear hfm hb7 hbm hnf HPT5 HPT6 HK5 HK6 HB5 HB6 HT5 HFL
      have w1 := ((unhide HT7).tab.word m (unhide HM)).2
      rw [← unhide HGG] at w1
      go_upto_region 8 with fail
      have HS0 := hide (show RdAt w w7 (w7.iter G 0) q w7.heap.size m 0 G ws [] from ⟨IterAt.new _ _, Only.of_below ((Below.refl _ _).alloc (Nat.le_refl _) _) (fun x h1 h2 => by omega), (unhide HKQ7).alloc _, (unhide HB7).alloc (unhide HB7).size _, rfl, by simp, by simp⟩)
      clear w1
      go_loopw [8] (fun _ W => ∃ (i : Nat) (ns : List Int), i ≤ l ∧ Hid (RdAt w w7 W q w7.heap.size m i G ws ns)) (fun _ W => l - posAt W w7.heap.size)
      case atStart => exact ⟨0, [], Nat.zero_le _, HS0⟩
      case round =>
        obtain ⟨i, ns, hi, HR⟩ := hrel
        by_cases hlt : i < l
        · have hil : i < (selL m).length := by rw [← unhide HLL]; exact hlt
          have hj : (selL m)[i]? = some (selL m)[i] := List.getElem?_eq_getElem hil
          generalize (selL m)[i] = j at hj
          obtain ⟨hnd, _, hsj, hsa, _, _⟩ := wordT_facts ⟨m, unhide HM⟩
          have hj17 : 1 ≤ j ∧ j ≤ 7 := hsj j (List.mem_of_getElem? hj)
          have hip : i < G.size := by rw [hsz]; exact hlt
          have hc : G[i]'hip = letterU j := by
            have h1 : (signL m)[i]? = some (letterU j) := by unfold signL; rw [List.getElem?_map, hj]; rfl
            have hg := unhide HGG
            subst hg
            have h2 : (bstr (signL m))[i]'hip = (signL m)[i]'(by have := hip; rw [bstr_size] at this; exact this) := rfl
            rw [h2]
            exact (List.getElem?_eq_some_iff.1 h1).2
          obtain ⟨w8, hnx, hit8, ho8⟩ := iter_next (unhide HR).it hip (by rw [hc]; exact hsa _ (List.mem_map.2 ⟨j, List.mem_of_getElem? hj, rfl⟩))
          rw [hc] at hnx
          obtain ⟨y, hy⟩ : ∃ y, ws[i + 1]? = some y := ⟨ws[i + 1]'(by have := unhide HN; have := unhide HLEN; omega), List.getElem?_eq_getElem _⟩
          have hq7 : q < w7.heap.size := (unhide HKQ7).lt
          have ho78 : Only (fun k => k = q) w7 w8 := (unhide HR).on.trans ho8 (fun x hx e => absurd hx (by have : x = w7.heap.size := e; omega))
          have hb78 : Below q w7 w8 := ho78.to_below (fun x hx _ e => by have : x = q := e; omega) (Nat.le_of_lt hq7)
          obtain ⟨_, sb8, p1, _, p3⟩ := (unhide HPQ7).below hb78
          have p2 := p3 (i + 1) y hy
          have HB8 := hide (show Below w.heap.size w w8 from Below.only (unhide HR).be ho8 (fun x hx e => by have e2 : x = w7.heap.size := e; have := (unhide HB7).size; omega) (unhide HR).be.size)
          have HT8 := hide ((unhide HT).below (unhide HB8))
          have HAT := hide (atoi_any (bstr y) w8 (by rw [bstr_size]; have h1 := cut_piece L y (List.mem_of_getElem? (by rw [← unhide HWS]; exact hy)); have := unhide HLN; omega) (unhide HT8))
          have HI := hide hi
          have HIL := hide hlt
          have hiw : (i : Int) + 1 < (ws.length : Int) := by have := unhide HN; have := unhide HLEN; omega
          obtain ⟨ni, hni⟩ : ∃ ni, ni = ws.length := ⟨_, rfl⟩
          rw [← hni] at p1 hiw
          obtain ⟨Y, hY⟩ : ∃ Y, Y = bstr y := ⟨_, rfl⟩
          rw [← hY] at HAT p2
          have HY := hide hY
          have HYW := hide hy
          have HJ := hide hj
          have HJ17 := hide hj17
          have H78 := hide ho78
          have HB78 := hide hb78
          have HQ8 := hide (show q ≤ w8.heap.size from Nat.le_trans (Nat.le_of_lt hq7) ho78.size)
          have HNI := hide hni
          have HIT8 := hide hit8
          have HO8 := hide ho8
          clear hc hnd hsj hsa hj hj17 hil hip hit8 ho8 hy hq7 ho78 hb78 p3 hY hni
          go_wp2_with fail
          refine (unhide HAT).mono ?_
          rintro _ w9 ⟨hA, hb9⟩
          have HB9 := hide ((unhide HB8).trans (hb9.mono (unhide HB8).size))
          have H9 := hide hb9
          clear hb9 hnx
          have HP9 := hide (((unhide HPQ7).below (unhide HB78)).below ((unhide H9).mono (unhide HQ8)))
          have HK9 := hide (((unhide HK7).only (unhide H78) (fun e => by have : p = q := e; have := unhide HQW; omega)).below (unhide H9) (Nat.lt_of_lt_of_le (unhide HK7).lt (unhide H78).size))
          have HT9 := hide ((unhide HT).below (unhide HB9))
          rcases hA with ⟨v, hv, rfl⟩ | ⟨hno, v, te, pv, rfl⟩
          · have hvb := Lib.atoiAll_bounds hv
            have HIT := hide (fun n : Ext w9 => itoa_any v n.W hvb.1 hvb.2 (((unhide HT9).below n.h).tab))
            have HV := hide hv
            have HVB := hide (show I64 v from hvb)
            clear hv hvb
            obtain ⟨X, hX⟩ : ∃ X, X = bstr (Lib.itoa v) := ⟨_, rfl⟩
            rw [← hX] at HIT
            have HXX := hide hX
            clear hX
            go_upto_region 11 with fail
            clear p1 p2
            obtain ⟨_, sb9, p1, _, p3⟩ := unhide HP9
            rw [← unhide HNI] at p1
            have p2 := p3 (i + 1) y (unhide HYW)
            rw [← unhide HY] at p2
            have q1 := fun n : Ext w9 => n.cell p1
            have q2 := fun n : Ext w9 => n.cell p2
            clear p1 p2 p3
            by_cases hxy : X = Y
            · have hg : (!(X.toList == Y.toList)) = false := by rw [hxy]; simp
              have HXY := hide hxy
              clear hxy
              refine wp_region_calm (by kernel_rfl) (by kernel_rfl) ?_
              repeat (go_big_quiet_step ((go_at_call 18; exact calm_call (unhide HIT _))))
              refine wpQuiet_nil ?_
              rintro _ ⟨nq, rfl⟩
              have hb10 := nq.h
              generalize nq.W = w10 at hb10 ⊢
              have hqw7 := (unhide HKQ7).lt
              have hr8 : Blk w8 q 29 (stpC (putS (zeroS m) ((selL m).take i) ns)) := (unhide HR).kq.only (unhide HO8) (fun e => by have e2 : q = w7.heap.size := e; omega)
              have hf8 := (unhide HFM).only (unhide H78) (fun e => by have e2 : bm = q := e; have := unhide HBM; omega)
              have hk10 := (hr8.below (unhide H9) hr8.lt).below hb10 (Nat.lt_of_lt_of_le hr8.lt (unhide H9).size)
              have hf10 := (hf8.below (unhide H9)).below hb10
              have hi10 := ((unhide HIT8).below (unhide H9)).below hb10
              have hB10 := (unhide HB9).trans (hb10.mono (unhide HB9).size)
              have ho10 := ((unhide H78).below (unhide H9) (fun x h1 h2 => by have := (unhide H78).size; omega)).below hb10 (fun x h1 h2 => by have := (unhide H78).size; have := (unhide H9).size; omega)
              have hj17 := unhide HJ17
              have hjj : j - 1 + 1 = j := by omega
              have hkey := letter_key ⟨j, by omega⟩ hj17.1
              dsimp only at hkey
              have hlk := hf10.look hkey rfl
              rw [hjj] at hlk
              have hl8 : (putS (zeroS m) ((selL m).take i) ns).length = 8 := by rw [len_putS]; rfl
              have d0 := hk10.cell j
              rw [stpC_get _ j (by omega)] at d0
              have d1 := hk10.frozen j
              have HK10 := hide hk10
              have HF10 := hide hf10
              have HI10 := hide hi10
              have HB10 := hide hB10
              have HO10 := hide ho10
              clear hb10 hqw7 hr8 hf8 hk10 hf10 hi10 hB10 ho10 hkey hl8 q1 q2
              go_upto_region 13 with fail
              go_wp2_with fail
              have hop : Only (fun k => k = q) w10 (w10.setCell ⟨q, j, none⟩ (.int .i64 v)) := only_put (Only.refl _ w10) j _
              have hq7 := (unhide HKQ7).lt
              have hit : IterAt (w10.setCell ⟨q, j, none⟩ (.int .i64 v)) w7.heap.size G (i + 1) := (unhide HI10).only hop fun e => by have e2 : w7.heap.size = q := e; omega
              have hl := unhide HR
              have hil : i < (selL m).length := by rw [← unhide HLL]; exact unhide HIL
              refine ⟨⟨i + 1, ns ++ [v], Nat.succ_le_of_lt (unhide HIL), hide ⟨hit, (unhide HO10).trans hop (fun x _ e => e), ?_, (unhide HB10).setCell (p := ⟨q, j, none⟩) (unhide HQW).1 _, by rw [List.length_append, hl.len]; rfl, ?_, ?_⟩⟩, ?_⟩
              · have h := (unhide HK10).set_ j (.int .i64 v)
                rw [stpC_set] at h
                rw [List.take_add_one, unhide HJ]
                simp only [Option.toList_some]
                rw [putS_snoc j v _ _ _ (by rw [hl.len, List.length_take]; omega)]
                exact h
              · intro n hn
                rw [List.mem_append, List.mem_singleton] at hn
                rcases hn with hn | rfl
                · exact hl.i64 n hn
                · exact unhide HVB
              · intro k n hk
                by_cases hki : k < i
                · rw [List.getElem?_append_left (by rw [hl.len]; exact hki)] at hk
                  exact hl.num k n hk
                · rw [List.getElem?_append_right (by rw [hl.len]; omega), hl.len] at hk
                  have hk0 : k = i := by
                    have := (List.getElem?_eq_some_iff.1 hk).1
                    simp at this
                    omega
                  subst hk0
                  have hvn : v = n := by simpa using hk
                  rw [unhide HYW, ← hvn, bstr_inj ((unhide HXX).symm.trans ((unhide HXY).trans (unhide HY)))]
              · rw [hit.pos, hl.it.pos]
                have := unhide HIL
                omega
            · have hg : (!(X.toList == Y.toList)) = true := by
                have h1 : X.toList ≠ Y.toList := fun e => hxy (Go.WideShapes.bytes_inj (by simpa [ByteArray.toList_eq] using e))
                simpa using h1
              have HFF := hide (norep_word (by rw [← unhide HWS]; exact unhide HYW) (fun u hu e => hxy (by
                have h1 := unhide HV
                rw [unhide HY, bstr_data, hu] at h1
                cases h1
                rw [unhide HXX, unhide HY, e])))
              clear hxy
              refine wp_region_calm (by kernel_rfl) (by kernel_rfl) ?_
              repeat (go_big_quiet_step ((go_at_call 18; exact calm_call (unhide HIT _))))
              refine wpQuiet_nil ?_
              rintro _ ⟨nq, rfl⟩
              have HKE := hide ((unhide HK9).below nq.h (unhide HK9).lt)
              have HBE := hide ((unhide HB9).trans (nq.h.mono (unhide HB9).size))
              generalize nq.W = w10 at HKE HBE ⊢
              clear q1 q2
              have kz := unhide HKE
              have f0 := kz.frozen 0
              have f1 := kz.frozen 1
              have f2 := kz.frozen 2
              have f3 := kz.frozen 3
              have f4 := kz.frozen 4
              have f5 := kz.frozen 5
              have f6 := kz.frozen 6
              have f7 := kz.frozen 7
              have c0 : w10.cell? ⟨p, 0, none⟩ = some (.int .i64 0) := kz.cell 0
              have c1 : w10.cell? ⟨p, 1, none⟩ = some (.int .i64 0) := kz.cell 1
              have c2 : w10.cell? ⟨p, 2, none⟩ = some (.int .i64 0) := kz.cell 2
              have c3 : w10.cell? ⟨p, 3, none⟩ = some (.int .i64 0) := kz.cell 3
              have c4 : w10.cell? ⟨p, 4, none⟩ = some (.int .i64 0) := kz.cell 4
              have c5 : w10.cell? ⟨p, 5, none⟩ = some (.int .i64 0) := kz.cell 5
              have c6 : w10.cell? ⟨p, 6, none⟩ = some (.int .i64 0) := kz.cell 6
              have c7 : w10.cell? ⟨p, 7, none⟩ = some (.int .i64 0) := kz.cell 7
              clear kz
              go_wp2_with fail
              change bodyPost _ _ _ _ _ (wr8 w10 p 0 0 0 0 0 0 0 0)
              have kz := wr8_blk (unhide HKE) rfl 0 0 0 0 0 0 0 0
              have HBZ := hide (wr8_below (p := p) (unhide HBE) (by have := unhide HP; omega) 0 0 0 0 0 0 0 0)
              clear f0 f1 f2 f3 f4 f5 f6 f7 c0 c1 c2 c3 c4 c5 c6 c7
              generalize wr8 w10 p 0 0 0 0 0 0 0 0 = WZ at kz HBZ ⊢
              have c0 : WZ.cell? ⟨p, 0, none⟩ = some (.int .i64 0) := kz.cell 0
              have c1 : WZ.cell? ⟨p, 1, none⟩ = some (.int .i64 0) := kz.cell 1
              have c2 : WZ.cell? ⟨p, 2, none⟩ = some (.int .i64 0) := kz.cell 2
              have c3 : WZ.cell? ⟨p, 3, none⟩ = some (.int .i64 0) := kz.cell 3
              have c4 : WZ.cell? ⟨p, 4, none⟩ = some (.int .i64 0) := kz.cell 4
              have c5 : WZ.cell? ⟨p, 5, none⟩ = some (.int .i64 0) := kz.cell 5
              have c6 : WZ.cell? ⟨p, 6, none⟩ = some (.int .i64 0) := kz.cell 6
              have c7 : WZ.cell? ⟨p, 7, none⟩ = some (.int .i64 0) := kz.cell 7
              refine bodyPost_ret (v := .tuple #[stpV [0, 0, 0, 0, 0, 0, 0, 0], .int .i64 4]) (by simp [results, Tryd.results11, go_sem, stpV, c0, c1, c2, c3, c4, c5, c6, c7]) rfl ?_
              exact ⟨_, _, rfl, Or.inr ⟨unhide HFF, rfl, rfl⟩, rfl, unhide HBZ⟩
          · have HFF := hide (norep_word (by rw [← unhide HWS]; exact unhide HYW) (fun u hu _ => hno u (by rw [unhide HY, bstr_data]; exact hu)))
            clear hno
            go_upto_region 11 with fail
            go_quiet (fail)
            have HKE := hide ((unhide HK9).drewN nq)
            have HBE := hide (below_drewN (unhide HB9) nq)
            generalize w9.drewN nq = w10 at HKE HBE ⊢
            clear p1 p2
            have kz := unhide HKE
            have f0 := kz.frozen 0
            have f1 := kz.frozen 1
            have f2 := kz.frozen 2
            have f3 := kz.frozen 3
            have f4 := kz.frozen 4
            have f5 := kz.frozen 5
            have f6 := kz.frozen 6
            have f7 := kz.frozen 7
            have c0 : w10.cell? ⟨p, 0, none⟩ = some (.int .i64 0) := kz.cell 0
            have c1 : w10.cell? ⟨p, 1, none⟩ = some (.int .i64 0) := kz.cell 1
            have c2 : w10.cell? ⟨p, 2, none⟩ = some (.int .i64 0) := kz.cell 2
            have c3 : w10.cell? ⟨p, 3, none⟩ = some (.int .i64 0) := kz.cell 3
            have c4 : w10.cell? ⟨p, 4, none⟩ = some (.int .i64 0) := kz.cell 4
            have c5 : w10.cell? ⟨p, 5, none⟩ = some (.int .i64 0) := kz.cell 5
            have c6 : w10.cell? ⟨p, 6, none⟩ = some (.int .i64 0) := kz.cell 6
            have c7 : w10.cell? ⟨p, 7, none⟩ = some (.int .i64 0) := kz.cell 7
            clear kz
            go_wp2_with fail
            change bodyPost _ _ _ _ _ (wr8 w10 p 0 0 0 0 0 0 0 0)
            have kz := wr8_blk (unhide HKE) rfl 0 0 0 0 0 0 0 0
            have HBZ := hide (wr8_below (p := p) (unhide HBE) (by have := unhide HP; omega) 0 0 0 0 0 0 0 0)
            clear f0 f1 f2 f3 f4 f5 f6 f7 c0 c1 c2 c3 c4 c5 c6 c7
            generalize wr8 w10 p 0 0 0 0 0 0 0 0 = WZ at kz HBZ ⊢
            have c0 : WZ.cell? ⟨p, 0, none⟩ = some (.int .i64 0) := kz.cell 0
            have c1 : WZ.cell? ⟨p, 1, none⟩ = some (.int .i64 0) := kz.cell 1
            have c2 : WZ.cell? ⟨p, 2, none⟩ = some (.int .i64 0) := kz.cell 2
            have c3 : WZ.cell? ⟨p, 3, none⟩ = some (.int .i64 0) := kz.cell 3
            have c4 : WZ.cell? ⟨p, 4, none⟩ = some (.int .i64 0) := kz.cell 4
            have c5 : WZ.cell? ⟨p, 5, none⟩ = some (.int .i64 0) := kz.cell 5
            have c6 : WZ.cell? ⟨p, 6, none⟩ = some (.int .i64 0) := kz.cell 6
            have c7 : WZ.cell? ⟨p, 7, none⟩ = some (.int .i64 0) := kz.cell 7
            refine bodyPost_ret (v := .tuple #[stpV [0, 0, 0, 0, 0, 0, 0, 0], .int .i64 4]) (by simp [results, Tryd.results11, go_sem, stpV, c0, c1, c2, c3, c4, c5, c6, c7]) rfl ?_
            exact ⟨_, _, rfl, Or.inr ⟨unhide HFF, rfl, rfl⟩, rfl, unhide HBZ⟩
        · have hil : i = l := by omega
          obtain ⟨x0, x1, x2, x3, x4, x5, x6, x7, hx⟩ := put_eight m ((selL m).take i) ns
          have kq := (unhide HR).kq
          rw [hx] at kq
          have kz := (unhide HK7).only (unhide HR).on (fun e => by have : p = q := e; have := unhide HQW; omega)
          have hend := iter_end (unhide HR).it (by omega)
          have HX := hide hx
          have HIL := hide hil
          have HKZ := hide kz
          have g0 : wr.cell? ⟨q, 0, none⟩ = some (.int .i64 x0) := kq.cell 0
          have g1 : wr.cell? ⟨q, 1, none⟩ = some (.int .i64 x1) := kq.cell 1
          have g2 : wr.cell? ⟨q, 2, none⟩ = some (.int .i64 x2) := kq.cell 2
          have g3 : wr.cell? ⟨q, 3, none⟩ = some (.int .i64 x3) := kq.cell 3
          have g4 : wr.cell? ⟨q, 4, none⟩ = some (.int .i64 x4) := kq.cell 4
          have g5 : wr.cell? ⟨q, 5, none⟩ = some (.int .i64 x5) := kq.cell 5
          have g6 : wr.cell? ⟨q, 6, none⟩ = some (.int .i64 x6) := kq.cell 6
          have g7 : wr.cell? ⟨q, 7, none⟩ = some (.int .i64 x7) := kq.cell 7
          have f0 := kz.frozen 0
          have f1 := kz.frozen 1
          have f2 := kz.frozen 2
          have f3 := kz.frozen 3
          have f4 := kz.frozen 4
          have f5 := kz.frozen 5
          have f6 := kz.frozen 6
          have f7 := kz.frozen 7
          have c0 : wr.cell? ⟨p, 0, none⟩ = some (.int .i64 0) := kz.cell 0
          have c1 : wr.cell? ⟨p, 1, none⟩ = some (.int .i64 0) := kz.cell 1
          have c2 : wr.cell? ⟨p, 2, none⟩ = some (.int .i64 0) := kz.cell 2
          have c3 : wr.cell? ⟨p, 3, none⟩ = some (.int .i64 0) := kz.cell 3
          have c4 : wr.cell? ⟨p, 4, none⟩ = some (.int .i64 0) := kz.cell 4
          have c5 : wr.cell? ⟨p, 5, none⟩ = some (.int .i64 0) := kz.cell 5
          have c6 : wr.cell? ⟨p, 6, none⟩ = some (.int .i64 0) := kz.cell 6
          have c7 : wr.cell? ⟨p, 7, none⟩ = some (.int .i64 0) := kz.cell 7
          clear kz kq hx hil hlt hi hl4
          go_wp2_with fail
          change bodyPost _ _ _ _ _ (wr8 wr p x0 x1 x2 x3 x4 x5 x6 x7)
          have kz := wr8_blk (unhide HKZ) rfl x0 x1 x2 x3 x4 x5 x6 x7
          have HB8 := hide (wr8_below (p := p) (unhide HR).be (by have := unhide HP; omega) x0 x1 x2 x3 x4 x5 x6 x7)
          clear f0 f1 f2 f3 f4 f5 f6 f7 c0 c1 c2 c3 c4 c5 c6 c7 g0 g1 g2 g3 g4 g5 g6 g7
          generalize wr8 wr p x0 x1 x2 x3 x4 x5 x6 x7 = W8 at kz HB8 ⊢
          have c0 : W8.cell? ⟨p, 0, none⟩ = some (.int .i64 x0) := kz.cell 0
          have c1 : W8.cell? ⟨p, 1, none⟩ = some (.int .i64 x1) := kz.cell 1
          have c2 : W8.cell? ⟨p, 2, none⟩ = some (.int .i64 x2) := kz.cell 2
          have c3 : W8.cell? ⟨p, 3, none⟩ = some (.int .i64 x3) := kz.cell 3
          have c4 : W8.cell? ⟨p, 4, none⟩ = some (.int .i64 x4) := kz.cell 4
          have c5 : W8.cell? ⟨p, 5, none⟩ = some (.int .i64 x5) := kz.cell 5
          have c6 : W8.cell? ⟨p, 6, none⟩ = some (.int .i64 x6) := kz.cell 6
          have c7 : W8.cell? ⟨p, 7, none⟩ = some (.int .i64 x7) := kz.cell 7
          refine bodyPost_ret (v := .tuple #[stpV [x0, x1, x2, x3, x4, x5, x6, x7], .int .i64 0]) (by simp [results, Tryd.results11, go_sem, stpV, c0, c1, c2, c3, c4, c5, c6, c7]) rfl ?_
          have hR := unhide HR
          have hL := unhide HLL
          have hI := unhide HIL
          have hns : ns.length = (selL m).length := by rw [hR.len, hI, hL]
          refine ⟨_, _, rfl, Or.inl ⟨m, ns, ⟨unhide HM, hns, hR.i64, ?_⟩, ?_, rfl⟩, rfl, unhide HB8⟩
          · rw [← unhide HWS]
            have hwl : ws.length = (selL m).length + 1 := by rw [← unhide HN, unhide HLEN, hL]
            apply List.ext_getElem?
            intro j
            cases j with
            | zero => rw [unhide HX0, unhide HMX]; rfl
            | succ j =>
              rw [List.getElem?_cons_succ, List.getElem?_map]
              cases hj : ns[j]? with
              | some z => rw [hR.num j z hj]; rfl
              | none =>
                have h1 := List.getElem?_eq_none_iff.1 hj
                rw [List.getElem?_eq_none (by omega)]
                rfl
          · unfold ansS
            rw [← unhide HX, hI, hL, List.take_length]
    · have hne : ((n : Int) != (l : Int) + 1) = true := by simp; omega
      have HF := hide (unhide HNO hlen)
      clear hlen
      go_quiet (fail)
      have HK5 := hide ((unhide HK4).drewN nq)
      have HB5 := hide (below_drewN (unhide HB4) nq)
      generalize w4.drewN nq = w5 at HK5 HB5 ⊢
      have kz := unhide HK5
      have f0 := kz.frozen 0
      have f1 := kz.frozen 1
      have f2 := kz.frozen 2
      have f3 := kz.frozen 3
      have f4 := kz.frozen 4
      have f5 := kz.frozen 5
      have f6 := kz.frozen 6
      have f7 := kz.frozen 7
      have c0 : w5.cell? ⟨p, 0, none⟩ = some (.int .i64 0) := kz.cell 0
      have c1 : w5.cell? ⟨p, 1, none⟩ = some (.int .i64 0) := kz.cell 1
      have c2 : w5.cell? ⟨p, 2, none⟩ = some (.int .i64 0) := kz.cell 2
      have c3 : w5.cell? ⟨p, 3, none⟩ = some (.int .i64 0) := kz.cell 3
      have c4 : w5.cell? ⟨p, 4, none⟩ = some (.int .i64 0) := kz.cell 4
      have c5 : w5.cell? ⟨p, 5, none⟩ = some (.int .i64 0) := kz.cell 5
      have c6 : w5.cell? ⟨p, 6, none⟩ = some (.int .i64 0) := kz.cell 6
      have c7 : w5.cell? ⟨p, 7, none⟩ = some (.int .i64 0) := kz.cell 7
      clear kz
      go_wp2_with fail
      change bodyPost _ _ _ _ _ (wr8 w5 p 0 0 0 0 0 0 0 0)
      have kz := wr8_blk (unhide HK5) rfl 0 0 0 0 0 0 0 0
      have HB8 := hide (wr8_below (p := p) (unhide HB5) (by have := unhide HP; omega) 0 0 0 0 0 0 0 0)
      clear f0 f1 f2 f3 f4 f5 f6 f7 c0 c1 c2 c3 c4 c5 c6 c7
      generalize wr8 w5 p 0 0 0 0 0 0 0 0 = W8 at kz HB8 ⊢
      have c0 : W8.cell? ⟨p, 0, none⟩ = some (.int .i64 0) := kz.cell 0
      have c1 : W8.cell? ⟨p, 1, none⟩ = some (.int .i64 0) := kz.cell 1
      have c2 : W8.cell? ⟨p, 2, none⟩ = some (.int .i64 0) := kz.cell 2
      have c3 : W8.cell? ⟨p, 3, none⟩ = some (.int .i64 0) := kz.cell 3
      have c4 : W8.cell? ⟨p, 4, none⟩ = some (.int .i64 0) := kz.cell 4
      have c5 : W8.cell? ⟨p, 5, none⟩ = some (.int .i64 0) := kz.cell 5
      have c6 : W8.cell? ⟨p, 6, none⟩ = some (.int .i64 0) := kz.cell 6
      have c7 : W8.cell? ⟨p, 7, none⟩ = some (.int .i64 0) := kz.cell 7
      refine bodyPost_ret (v := .tuple #[stpV [0, 0, 0, 0, 0, 0, 0, 0], .int .i64 4]) (by simp [results, Tryd.results11, go_sem, stpV, c0, c1, c2, c3, c4, c5, c6, c7]) rfl ?_
      exact ⟨_, _, rfl, Or.inr ⟨unhide HF, rfl, rfl⟩, rfl, unhide HB8⟩
  · have HF := hide (show ∀ m' ns, ¬ RepL L m' ns from fun m' ns hr => by
      obtain ⟨h1, h2, _, h4⟩ := hr
      rw [← unhide HWS] at h4
      have h5 := unhide HX0
      rw [h4] at h5
      exact hno m' h1 (by simpa using h5))
    clear hno
    go_quiet (fail)
    have HK5 := hide ((unhide HK4).drewN nq)
    have HB5 := hide (below_drewN (unhide HB4) nq)
    generalize w4.drewN nq = w5 at HK5 HB5 ⊢
    have kz := unhide HK5
    have f0 := kz.frozen 0
    have f1 := kz.frozen 1
    have f2 := kz.frozen 2
    have f3 := kz.frozen 3
    have f4 := kz.frozen 4
    have f5 := kz.frozen 5
    have f6 := kz.frozen 6
    have f7 := kz.frozen 7
    have c0 : w5.cell? ⟨p, 0, none⟩ = some (.int .i64 0) := kz.cell 0
    have c1 : w5.cell? ⟨p, 1, none⟩ = some (.int .i64 0) := kz.cell 1
    have c2 : w5.cell? ⟨p, 2, none⟩ = some (.int .i64 0) := kz.cell 2
    have c3 : w5.cell? ⟨p, 3, none⟩ = some (.int .i64 0) := kz.cell 3
    have c4 : w5.cell? ⟨p, 4, none⟩ = some (.int .i64 0) := kz.cell 4
    have c5 : w5.cell? ⟨p, 5, none⟩ = some (.int .i64 0) := kz.cell 5
    have c6 : w5.cell? ⟨p, 6, none⟩ = some (.int .i64 0) := kz.cell 6
    have c7 : w5.cell? ⟨p, 7, none⟩ = some (.int .i64 0) := kz.cell 7
    clear kz
    go_wp2_with fail
    change bodyPost _ _ _ _ _ (wr8 w5 p 0 0 0 0 0 0 0 0)
    have kz := wr8_blk (unhide HK5) rfl 0 0 0 0 0 0 0 0
    have HB8 := hide (wr8_below (p := p) (unhide HB5) (by have := unhide HP; omega) 0 0 0 0 0 0 0 0)
    clear f0 f1 f2 f3 f4 f5 f6 f7 c0 c1 c2 c3 c4 c5 c6 c7
    generalize wr8 w5 p 0 0 0 0 0 0 0 0 = W8 at kz HB8 ⊢
    have c0 : W8.cell? ⟨p, 0, none⟩ = some (.int .i64 0) := kz.cell 0
    have c1 : W8.cell? ⟨p, 1, none⟩ = some (.int .i64 0) := kz.cell 1
    have c2 : W8.cell? ⟨p, 2, none⟩ = some (.int .i64 0) := kz.cell 2
    have c3 : W8.cell? ⟨p, 3, none⟩ = some (.int .i64 0) := kz.cell 3
    have c4 : W8.cell? ⟨p, 4, none⟩ = some (.int .i64 0) := kz.cell 4
    have c5 : W8.cell? ⟨p, 5, none⟩ = some (.int .i64 0) := kz.cell 5
    have c6 : W8.cell? ⟨p, 6, none⟩ = some (.int .i64 0) := kz.cell 6
    have c7 : W8.cell? ⟨p, 7, none⟩ = some (.int .i64 0) := kz.cell 7
    refine bodyPost_ret (v := .tuple #[stpV [0, 0, 0, 0, 0, 0, 0, 0], .int .i64 4]) (by simp [results, Tryd.results11, go_sem, stpV, c0, c1, c2, c3, c4, c5, c6, c7]) rfl ?_
    exact ⟨_, _, rfl, Or.inr ⟨unhide HF, rfl, rfl⟩, rfl, unhide HB8⟩
end Go.Proofs.YtcmkcgegdclllaaDoor
