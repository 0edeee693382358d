/- Contract of desk.Show. Conditions: none beyond what each theorem states. -/
import Derived.Test.YtcmkcgegdclllaaDoorDesP
import Derived.Test.YtcmkcgegdclllaaDoorSh
import Derived.Lib.SmallJoins
namespace Go.Proofs.YtcmkcgegdclllaaDoor
open Go.RowKit
set_option linter.unusedVariables false

def stpV (xs : List Int) : Value := .agg (xs.map (Value.int .i64)).toArray
/-- the tables that the program's text lays read as they were laid -/
structure TabS (w : World) : Prop where
  pow : Lib.TabIs Tryd.prog w "internal/strconv.uint64pow10" .u64 Lib.pow10Tab
  word : ∀ m : Nat, m < 11 → w.cell? ⟨0, m * 2, none⟩ = some (.string (bstr (wordL m))) ∧ w.cell? ⟨0, m * 2 + 1, none⟩ = some (.string (bstr (signL m)))
  lt : 0 < w.heap.size
theorem gPow : Tryd.prog.globalNamed "internal/strconv.uint64pow10" = some 5 := by kernel_rfl
theorem TabS.below {w w' : World} (h : TabS w) (hb : Below w.heap.size w w') : TabS w' :=
  ⟨Joins.var_stays gPow h.pow hb (Nat.le_refl _), fun m hm => ⟨(hb.cell (p := ⟨_, m * 2, none⟩) h.lt).trans (h.word m hm).1, (hb.cell (p := ⟨_, m * 2 + 1, none⟩) h.lt).trans (h.word m hm).2⟩, Nat.lt_of_lt_of_le h.lt hb.size⟩
theorem below_grow (w : World) (k : Nat) (os : Array Obj) : Below w.heap.size w (Sort.grow (w.drewN k) os) :=
  ⟨rfl, rfl, rfl, by simp [Sort.grow, World.drewN], fun i hi => by
    show (w.heap ++ os)[i]? = w.heap[i]?
    rw [Array.getElem?_append_left hi]⟩
theorem itoa_any (n : Int) (w : World) (h0 : -9223372036854775808 ≤ n) (h1 : n ≤ 9223372036854775807) (hT : TabS w) :
    Calls Tryd.prog 18 #[.int .i64 n] w fun e w' => e = .returned (.string (bstr (Lib.itoa n))) ∧ Below w.heap.size w w' :=
  (Tryd.strconv_Itoa n h0 h1 w hT.pow).mono fun e w' ⟨he, k, os, hw⟩ => ⟨he, hw ▸ below_grow w k os⟩
theorem str_info : ∃ i, Tryd.prog.info? 9 = some i ∧ i.zero = some (.string ⟨#[]⟩) ∧ i.size = 1 ∧ i.bytes = 16 := by
  have h : (Tryd.prog.info? 9).map (fun i => (i.zero, i.size, i.bytes)) = some (some (.string ⟨#[]⟩), 1, 16) := by kernel_rfl
  cases hi : Tryd.prog.info? 9 with
  | none => rw [hi] at h; simp at h
  | some i => rw [hi] at h; simp at h; exact ⟨i, rfl, h.1, h.2.1, h.2.2⟩
set_option maxRecDepth 100000 in
set_option maxHeartbeats 4000000 in
theorem show_bad (x0 x1 x2 x3 x4 x5 x6 x7 : Int) (w : World) (h : x0 < 1 ∨ 11 < x0) :
    Calls Tryd.prog 9 #[.agg #[.int .i64 x0, .int .i64 x1, .int .i64 x2, .int .i64 x3, .int .i64 x4, .int .i64 x5, .int .i64 x6, .int .i64 x7]] w fun e w' => e = .returned (.tuple #[.string ⟨#[]⟩, .int .i64 3]) ∧ Below w.heap.size w w' := by
  have HB := hide (show ∀ cs, Below w.heap.size w (w.alloc (.cells cs 29)) from fun cs => (Below.refl _ _).alloc (Nat.le_refl _) _)
  by_cases h1 : x0 < 1
  · clear h
    go_enter Tryd.func9, Tryd.ntmps9
    go_wp2_with fail
    go_ret2
    exact ⟨rfl, unhide HB _⟩
  · have h2 : 11 < x0 := by omega
    clear h
    go_enter Tryd.func9, Tryd.ntmps9
    go_wp2_with fail
    go_ret2
    exact ⟨rfl, unhide HB _⟩
/-- the step's cells, some fields struck -/
def stpC (xs : List Int) : Array Value := (xs.map (Value.int .i64)).toArray
def partS (m i : Nat) (xs : List Int) : List Value := .string (bstr (wordL m)) :: ((selL m).take i).map fun j => .string (bstr (Lib.itoa (fld xs j)))
theorem own_obj_ne {w : World} {base size n : Nat} {e : TypeId} {v : Value} {xs : List Value} (h : w.ownsRow base e size v n xs) {b : Nat} {o : Obj} (hb : w.heap[b]? = some o) (ho : ∀ cs t f, o ≠ .cells cs t f) : v.ownBlock ≠ some b := by
  rcases h.2 with ⟨rfl, _⟩ | ⟨g, cap, cur, rfl, _, hh, _⟩
  · simp [Value.ownBlock]
  · intro he
    have : g = b := by simpa [Value.ownBlock] using he
    subst this
    rw [hb] at hh
    exact ho _ _ _ (Option.some.inj hh)
theorem FldMap.obj {w : World} {g b n : Nat} {S : Nat → Bool} (h : FldMap w g b n S) : ∃ es c, w.heap[b]? = some (.map es c) := by
  obtain ⟨D, ⟨es, c, hb, _⟩, _⟩ := h
  exact ⟨es, c, hb⟩
theorem FldMap.far {w w' : World} {g b n size k base : Nat} {S : Nat → Bool} {e : TypeId} {v : Value} {xs : List Value} (h : FldMap w g b n S) (hv : w.ownsRow base e size v k xs) (hg : w.grownBy w' v.ownBlock) : FldMap w' g b n S := by
  obtain ⟨es, c, hb⟩ := h.obj
  exact h.only ((Only.refl _ w).grown hg (D := fun k => v.ownBlock = some k) (fun g hg _ => hg)) (fun e => own_obj_ne hv hb (by intro _ _ _ h; cases h) e)
theorem IterAt.far {w w' : World} {r pos size k base : Nat} {s : ByteArray} {e : TypeId} {v : Value} {xs : List Value} (h : IterAt w r s pos) (hv : w.ownsRow base e size v k xs) (hg : w.grownBy w' v.ownBlock) : IterAt w' r s pos :=
  h.only ((Only.refl _ w).grown hg (D := fun k => v.ownBlock = some k) (fun g hg _ => hg)) (fun e => own_obj_ne hv h (by intro _ _ _ h; cases h) e)
theorem blk_obj_ne {w : World} {p b : Nat} {t : TypeId} {cs : Array Value} (h : Blk w p t cs) {o : Obj} (hb : w.heap[b]? = some o) (ho : ∀ cs t f, o ≠ .cells cs t f) : b ≠ p := by
  rintro rfl
  unfold Blk at h
  rw [h] at hb
  exact ho _ _ _ (Option.some.inj hb).symm
/-- what the round keeps -/
structure ShwAt (w wr : World) (p bm n r m i : Nat) (xs : List Int) (v : Value) : Prop where
  own : wr.ownsRow w.heap.size 9 1 v (i + 1) (partS m i xs)
  blk : Blk wr p 29 (stpC (zer xs ((selL m).take i)))
  map : FldMap wr p bm n (fun _ => true)
  it : IterAt wr r (bstr (signL m)) i
  bel : Below w.heap.size w wr
theorem ShwAt.moved {w wr w' : World} {p bm n r m i : Nat} {xs : List Int} {v : Value} (h : ShwAt w wr p bm n r m i xs v) (hr : w.heap.size ≤ r) (ho : Only (fun k => k = r) wr w') :
    w'.ownsRow w.heap.size 9 1 v (i + 1) (partS m i xs) ∧ Blk w' p 29 (stpC (zer xs ((selL m).take i))) ∧ FldMap w' p bm n (fun _ => true) ∧ Below w.heap.size w w' := by
  obtain ⟨h1, h2, h3, h4, h5⟩ := h
  refine ⟨own_only h1 ho fun k hk e => own_obj_ne h1 h4 (by intro _ _ _ h; cases h) (by rw [hk, e]), h2.only ho fun e => blk_obj_ne h2 h4 (by intro _ _ _ h; cases h) e.symm, h3.only ho fun e => ?_, Below.only h5 ho (fun x hx e => by omega) h5.size⟩
  obtain ⟨es, c, hb⟩ := h3.obj
  rw [e] at hb
  unfold IterAt at h4
  rw [h4] at hb
  cases hb
theorem stpC_get (xs : List Int) (j : Nat) (h : j < xs.length) : (stpC xs)[j]? = some (.int .i64 (fld xs j)) := by
  unfold stpC fld
  simp [h]
theorem stpC_set (xs : List Int) (j : Nat) (z : Int) : (stpC xs).setIfInBounds j (.int .i64 z) = stpC (xs.set j z) := by
  unfold stpC
  rw [← Array.toList_inj]
  simp [List.map_set]
theorem partS_snoc (m i j : Nat) (xs : List Int) (h : (selL m)[i]? = some j) : partS m (i + 1) xs = partS m i xs ++ [.string (bstr (Lib.itoa (fld xs j)))] := by
  unfold partS
  rw [List.take_add_one, h]
  simp
set_option maxRecDepth 100000 in
set_option maxHeartbeats 4000000 in
theorem show_good (m : Nat) (x1 x2 x3 x4 x5 x6 x7 : Int) (w : World) (hm : m < 11) (hT : TabS w) (hx : ∀ x ∈ [x1, x2, x3, x4, x5, x6, x7], -9223372036854775808 ≤ x ∧ x ≤ 9223372036854775807) :
    Calls Tryd.prog 9 #[.agg #[.int .i64 ((m : Int) + 1), .int .i64 x1, .int .i64 x2, .int .i64 x3, .int .i64 x4, .int .i64 x5, .int .i64 x6, .int .i64 x7]] w fun e w' => ∃ l c, e = .returned (.tuple #[.string (bstr l), .int .i64 c]) ∧ showP [(m : Int) + 1, x1, x2, x3, x4, x5, x6, x7] = (l, c) ∧ Below w.heap.size w w' := by
  obtain ⟨wx, hwx⟩ : ∃ wx, wx = w.alloc (.cells #[.int .i64 ((m : Int) + 1), .int .i64 x1, .int .i64 x2, .int .i64 x3, .int .i64 x4, .int .i64 x5, .int .i64 x6, .int .i64 x7] 29) := ⟨_, rfl⟩
  have hbx : Below w.heap.size w wx := by rw [hwx]; exact (Below.refl _ _).alloc (Nat.le_refl _) _
  obtain ⟨p, hp⟩ : ∃ p, p = w.heap.size := ⟨_, rfl⟩
  have kp : Blk wx p 29 #[.int .i64 ((m : Int) + 1), .int .i64 x1, .int .i64 x2, .int .i64 x3, .int .i64 x4, .int .i64 x5, .int .i64 x6, .int .i64 x7] := by rw [hwx, hp]; exact Blk.new _ _ _
  have hm1 : ¬ (m : Int) + 1 < 1 := by omega
  have hm2 : ¬ (m : Int) + 1 > 11 := by omega
  have hmi : (m : Int) < 11 := by omega
  have hTx := hT.below hbx
  have HTW := hide hT
  have c0 := kp.cell 0
  have w0 := (hTx.word m hm).1
  have w1 := (hTx.word m hm).2
  have HP := hide hp
  have HWX := hide hwx
  clear hp hwx
  go_enter Tryd.func9, Tryd.ntmps9
  go_upto_region 1 with fail
  rw [← unhide HP, ← unhide HWX]
  have hpx := kp.lt
  have hpw : w.heap.size ≤ p := by have := unhide HP; omega
  have HKP := hide kp
  have HX := hide hx
  obtain ⟨xs, hxs⟩ : ∃ xs : List Int, xs = [(m : Int) + 1, x1, x2, x3, x4, x5, x6, x7] := ⟨_, rfl⟩
  have hlx : xs.length = 8 := by rw [hxs]; rfl
  have HKX := hide (show Blk wx p 29 (stpC xs) by rw [hxs]; exact kp)
  have HXB := hide (fun j (hj : 1 ≤ j ∧ j ≤ 7) => show -9223372036854775808 ≤ fld xs j ∧ fld xs j ≤ 9223372036854775807 by
    have h7 : j = 1 ∨ j = 2 ∨ j = 3 ∨ j = 4 ∨ j = 5 ∨ j = 6 ∨ j = 7 := by omega
    rw [hxs]
    rcases h7 with rfl | rfl | rfl | rfl | rfl | rfl | rfl <;> exact hx _ (by simp [fld]))
  have HXS := hide hxs
  have HTX := hide hTx
  have HBX := hide hbx
  obtain ⟨hnd, hsl, hsj, hsa, hwl, hwn⟩ := wordT_facts ⟨m, hm⟩
  dsimp only at hnd hsl hsj hsa hwl hwn
  have HF := hide (And.intro hnd (And.intro hsj hsa))
  have hsz : (bstr (signL m)).size = (selL m).length := by rw [bstr_size]; unfold signL; rw [List.length_map]
  have HSZ := hide hsz
  clear hx hxs hT hTx hbx kp hnd hsj hsa hsz
  go_upto_region 5 with fail
  clear w0 w1 c0
  obtain ⟨w2, hw2⟩ : ∃ w2, w2 = (wx.alloc (.cells #[.string (bstr (wordL m)), .string (bstr (signL m))] 40)).alloc (.cells #[.string (bstr (wordL m))] 9) := ⟨_, rfl⟩
  obtain ⟨q, hq⟩ : ∃ q, q = wx.heap.size := ⟨_, rfl⟩
  have hb2 : Below wx.heap.size wx w2 := by rw [hw2]; exact ((Below.refl _ _).alloc (Nat.le_refl _) _).alloc (by simp) _
  have kq : Blk w2 q 40 #[.string (bstr (wordL m)), .string (bstr (signL m))] := by rw [hw2, hq]; exact (Blk.new _ _ _).alloc _
  have kr : Blk w2 (q + 1) 9 #[.string (bstr (wordL m))] := by
    rw [hw2, hq]
    have h := Blk.new (wx.alloc (.cells #[.string (bstr (wordL m)), .string (bstr (signL m))] 40)) 9 #[.string (bstr (wordL m))]
    simpa using h
  have hqw : w.heap.size ≤ q := by rw [hq]; exact (unhide HBX).size
  have HO2 := hide (show w2.ownsRow w.heap.size 9 1 (.slice (some ⟨q + 1, 0, none⟩) 1 1) 1 (partS m 0 xs) from ⟨rfl, .inr ⟨q + 1, 1, _, rfl, by omega, kr, Nat.le_refl _, by unfold maxLen; omega, rfl, rfl⟩⟩)
  have HK2 := hide ((unhide HKX).below hb2 (unhide HKX).lt)
  have HB2 := hide ((unhide HBX).trans (hb2.mono (unhide HBX).size))
  have HT2 := hide ((unhide HTX).below hb2)
  have HFL := hide (fields_any p _ w2 (unhide HK2) (by unfold stpC; simp [hlx]))
  have HKQ := hide kq
  rw [← hw2, ← hq]
  clear hw2 hq hb2 kq kr
  go_wp2_with fail
  refine (unhide HFL).mono ?_
  rintro _ w3 ⟨bm, n, rfl, hn31, hfm, hb3, hbm⟩
  have HO3 := hide (own_below' (unhide HO2) hb3)
  have HK3 := hide ((unhide HK2).below hb3 (unhide HK2).lt)
  have HB3 := hide ((unhide HB2).trans (hb3.mono (unhide HB2).size))
  have HT3 := hide ((unhide HT2).below hb3)
  have kq3 := (unhide HKQ).below hb3 (unhide HKQ).lt
  have q1 := kq3.cell 1
  have HF3 := hide hfm
  clear hb3 hbm hfm kq3
  obtain ⟨iS, hiS, hzS, hsS, hyS⟩ := str_info
  obtain ⟨L, hL⟩ : ∃ L, L = (selL m).length := ⟨_, rfl⟩
  rw [← hL] at hsl
  have HL := hide hL
  obtain ⟨sg, hsg⟩ : ∃ sg, sg = bstr (signL m) := ⟨_, rfl⟩
  have hL0 : sg.size = L := by rw [hsg, unhide HSZ, hL]
  have HS0 := hide (show ShwAt w (w3.iter sg 0) p bm n w3.heap.size m 0 xs (.slice (some ⟨q + 1, 0, none⟩) 1 1) from
    ⟨own_below' (unhide HO3) ((Below.refl _ _).alloc (Nat.le_refl _) _), (unhide HK3).alloc _, (unhide HF3).below ((Below.refl _ _).alloc (Nat.le_refl _) _), by rw [hsg]; exact IterAt.new _ _, (unhide HB3).alloc (unhide HB3).size _⟩)
  rw [← hsg] at q1
  have HSG := hide hsg
  have HL0 := hide hL0
  clear hL hsg hL0
  go_upto_region 6 with fail
  go_wp2_with fail
  clear q1
  go_loopw [5] (fun v W => ∃ i : Nat, i ≤ L ∧ Hid (ShwAt w W p bm n w3.heap.size m i xs v)) (fun _ W => L - posAt W w3.heap.size)
  case atStart => exact ⟨0, Nat.zero_le _, HS0⟩
  case round =>
    obtain ⟨i, hi, HS⟩ := hrel
    by_cases hlt : i < L
    · obtain ⟨hnd, hsj, hsa⟩ := unhide HF
      have hil : i < (selL m).length := by rw [← unhide HL]; exact hlt
      have hj : (selL m)[i]? = some (selL m)[i] := List.getElem?_eq_getElem hil
      have hjn : (selL m)[i] ∉ (selL m).take i := fun hmem => by
        obtain ⟨k, hk⟩ := List.mem_iff_getElem?.1 hmem
        rw [List.getElem?_take] at hk
        split at hk
        · have := (List.getElem?_inj hil hnd).1 (hj.trans hk.symm)
          omega
        · cases hk
      generalize (selL m)[i] = j at hj hjn
      have hj17 := hsj j (List.mem_of_getElem? hj)
      have hip : i < (bstr (signL m)).size := by rw [unhide HSZ]; exact hil
      have hc : (bstr (signL m))[i]'hip = letterU j := by
        have h1 : (signL m)[i]? = some (letterU j) := by unfold signL; rw [List.getElem?_map, hj]; rfl
        have h2 : (bstr (signL m))[i]'hip = (signL m)[i]'(by have := hip; rw [bstr_size] at this; exact this) := rfl
        rw [h2]
        exact (List.getElem?_eq_some_iff.1 h1).2
      obtain ⟨w4, hnx, hit4, ho4⟩ := iter_next (unhide HS).it hip (by rw [hc]; exact hsa _ (List.mem_map.2 ⟨j, List.mem_of_getElem? hj, rfl⟩))
      rw [hc] at hnx
      obtain ⟨ho5, hk5, hf5, hb5⟩ := (unhide HS).moved (unhide HB3).size ho4
      have hkey := letter_key ⟨j, by omega⟩ hj17.1
      dsimp only at hkey
      have hjj : j - 1 + 1 = j := by omega
      have hlk := hf5.look hkey rfl
      rw [hjj] at hlk
      have hz8 : (zer xs ((selL m).take i)).length = 8 := by rw [zer_len]; exact hlx
      have hcj := hk5.cell j
      rw [stpC_get _ j (by omega), zer_get, if_neg hjn] at hcj
      have HIT := hide (fun (W : World) (hW : Below w.heap.size w W) => itoa_any (fld xs j) W (unhide HXB j hj17).1 (unhide HXB j hj17).2 ((unhide HTW).below hW))
      have HB4 := hide hb5
      have HK4 := hide hk5
      have HF4 := hide hf5
      have HO4 := hide ho5
      have HI4 := hide hit4
      have HJ := hide hj
      have HKEY := hide hkey
      clear hnd hsj hsa hil hj hjn hip hc hit4 ho4 ho5 hk5 hf5 hkey
      have hsz := hb5.size
      clear hb5
      have hmq : (i + 1 + 1) * 16 ≤ 140737488355328 := by omega
      have HMQ := hide hmq
      clear hmq
      go_upto_region 9 with fail
      go_wp2_with fail
      refine (unhide HIT _ (unhide HB4)).mono ?_
      rintro _ w6 ⟨rfl, hb6⟩
      have HB6 := hide ((unhide HB4).trans (hb6.mono (unhide HB4).size))
      have HK6 := hide ((unhide HK4).below hb6 (unhide HK4).lt)
      have HF6 := hide ((unhide HF4).below hb6)
      have HO6 := hide (own_below' (unhide HO4) hb6)
      have HI6 := hide ((unhide HI4).below hb6)
      have hs6 := (unhide HB6).size
      clear hb6 hlk hcj hsz
      go_wp2_with (first
        | (at_builtin; (refine wpList_append_new w6 rfl (.tmp 32) (.tmp 39) _ rfl w.heap.size 9 iS _ 1 16 Tryd.underlying42 hiS hzS hsS hyS rfl (by omega) (by omega) _ (i + 1) _ (unhide HO6) rfl _ 1 _ rfl rfl rfl (by simp [Value.oneCell']) (unhide HMQ) hs6 ?_); intro g7 cap7 w7 hg7 hown7 hbel7 hgr7 hat7
           have hf7 := (unhide HF6).far (unhide HO6) hgr7
           have hk7 := (unhide HK6).grown hgr7 (fun e => own_blk_ne (unhide HO6) (unhide HK6) (by decide) e.symm)
           have hi7 := (unhide HI6).far (unhide HO6) hgr7
           have hlk7 := hf7.look (unhide HKEY) rfl
           rw [hjj] at hlk7
           have d0 := hk7.cell j
           rw [stpC_get _ j (by omega)] at d0
           have d1 := hk7.frozen j
           have HB7 := hide (hbel7 w.heap.size w (Nat.le_refl _) (unhide HB6))
           have HF7 := hide hf7
           have HK7 := hide hk7
           have HI7 := hide hi7
           have HO7 := hide hown7
           clear hf7 hk7 hi7 hg7 hbel7 hgr7 hat7 hown7))
      have hop : Only (fun k => k = p) w7 (w7.setCell ⟨p, j, none⟩ (.int .i64 0)) := only_put (Only.refl _ w7) j _
      have hit8 : IterAt (w7.setCell ⟨p, j, none⟩ (.int .i64 0)) w3.heap.size (bstr (signL m)) (i + 1) := (unhide HI7).only hop fun e => blk_obj_ne (unhide HK7) (unhide HI7) (by intro _ _ _ h; cases h) e
      refine ⟨⟨i + 1, by omega, hide ⟨?_, ?_, ?_, hit8, (unhide HB7).setCell (p := ⟨p, j, none⟩) hpw _⟩⟩, ?_⟩
      · have h := own_only (unhide HO7) hop fun k hk e => own_blk_ne (unhide HO7) (unhide HK7) (by decide) (by rw [hk, e])
        rw [partS_snoc m i j xs (unhide HJ)]
        exact h
      · have h := (unhide HK7).set_ j (.int .i64 0)
        rw [stpC_set] at h
        rw [List.take_add_one, unhide HJ]
        simp only [Option.toList_some]
        rw [zer_snoc]
        exact h
      · obtain ⟨es, c, hb⟩ := (unhide HF7).obj
        exact (unhide HF7).only hop fun e => blk_obj_ne (unhide HK7) hb (by intro _ _ _ h; cases h) e
      · rw [hit8.pos, (unhide HS).it.pos]
        omega
    · obtain rfl : i = L := by omega
      have hen := iter_end (unhide HS).it (by rw [unhide HSZ, ← unhide HL]; omega)
      have HKE := hide (show Blk wr p 29 (stpC (zer xs (selL m))) by
        have h := (unhide HS).blk
        rw [List.take_of_length_le (by rw [← unhide HL]; exact Nat.le_refl _)] at h
        exact h)
      have hz8 : (zer xs (selL m)).length = 8 := by rw [zer_len]; exact hlx
      have HZG := hide (fun j => zer_get j (selL m) xs)
      obtain ⟨Y, hY⟩ : ∃ Y, Y = zer xs (selL m) := ⟨_, rfl⟩
      rw [← hY] at hz8 HKE HZG
      have hx0 : fld xs 0 = (m : Int) + 1 := by rw [unhide HXS]; rfl
      have HNEG := hide (fun j (hj : 1 ≤ j ∧ j ≤ 7) h => showP_neg hm hx0 (unhide HZG) (j := j) hj h)
      have HPOS := hide (showP_pos hm hx0 (unhide HZG))
      rw [unhide HXS] at HNEG
      obtain ⟨g5, c5, rfl, _, hg5⟩ := (unhide HS).own.form (by omega)
      obtain ⟨_, hc5, _⟩ := own_caps (unhide HS).own
      have hjl : (Lib.join (wordL m :: (selL m).map fun j => Lib.itoa (fld xs j)) [32]).length ≤ 140737488355328 := by
        rw [Lib.join_cons, List.length_append]
        have h1 := joinTail_len ((selL m).map fun j => Lib.itoa (fld xs j)) (fun x hx => by
          obtain ⟨j, hj, rfl⟩ := List.mem_map.1 hx
          have hb := unhide HXB j ((unhide HF).2.1 j hj)
          exact itoa_len _ hb.1 hb.2)
        rw [List.length_map] at h1
        have := unhide HL
        omega
      have HJN := hide (show Calls Tryd.prog 19 #[.slice (some ⟨g5, 0, none⟩) (i + 1) c5, .string ⟨#[32]⟩] wr fun e w' => e = .returned (.string (bstr (Lib.join (wordL m :: (selL m).map fun j => Lib.itoa (fld xs j)) [32]))) ∧ Below wr.heap.size wr w' by
        have hd : ((bstr (wordL m) :: (selL m).map fun j => bstr (Lib.itoa (fld xs j))).map (·.data.toList)) = wordL m :: (selL m).map fun j => Lib.itoa (fld xs j) := by
          simp only [List.map_cons, List.map_map]
          congr 1
        have hn : (bstr (wordL m) :: (selL m).map fun j => bstr (Lib.itoa (fld xs j))).length = i + 1 := by simp [unhide HL]
        have h := Tryd.strings_Join g5 0 c5 (bstr (wordL m) :: (selL m).map fun j => bstr (Lib.itoa (fld xs j))) ⟨#[32]⟩ wr (fun j x hx => by
          rw [Nat.zero_add]
          refine own_cells (unhide HS).own j ?_
          unfold partS
          rw [List.take_of_length_le (by rw [← unhide HL]; exact Nat.le_refl _)]
          have : (Value.string (bstr (wordL m)) :: (selL m).map fun j => Value.string (bstr (Lib.itoa (fld xs j)))) = (bstr (wordL m) :: (selL m).map fun j => bstr (Lib.itoa (fld xs j))).map Value.string := by simp [Function.comp]
          rw [this, List.getElem?_map, hx]
          rfl) hg5 (by rw [hn]; omega) (by rw [hn]; exact hc5) (by rw [hd]; exact hjl)
        rw [hd, hn] at h
        exact h)
      have HBE := hide (unhide HS).bel
      clear hjl hg5 hc5 hx0 HS
      match Y, hz8 with
      | [y0, y1, y2, y3, y4, y5, y6, y7], _ =>
        have k0 : wr.cell? ⟨p, 0, none⟩ = some (.int .i64 y0) := (unhide HKE).cell 0
        have k1 : wr.cell? ⟨p, 1, none⟩ = some (.int .i64 y1) := (unhide HKE).cell 1
        have k2 : wr.cell? ⟨p, 2, none⟩ = some (.int .i64 y2) := (unhide HKE).cell 2
        have k3 : wr.cell? ⟨p, 3, none⟩ = some (.int .i64 y3) := (unhide HKE).cell 3
        have k4 : wr.cell? ⟨p, 4, none⟩ = some (.int .i64 y4) := (unhide HKE).cell 4
        have k5 : wr.cell? ⟨p, 5, none⟩ = some (.int .i64 y5) := (unhide HKE).cell 5
        have k6 : wr.cell? ⟨p, 6, none⟩ = some (.int .i64 y6) := (unhide HKE).cell 6
        have k7 : wr.cell? ⟨p, 7, none⟩ = some (.int .i64 y7) := (unhide HKE).cell 7
        clear hY
        go_wp2_with fail
        · rename_i h1 h2 h3 h4 h5 h6 h7
          refine (unhide HJN).mono ?_
          rintro _ w9 ⟨rfl, hb9⟩
          have HB9 := hide ((unhide HBE).trans (hb9.mono (unhide HBE).size))
          have HP9 := hide (unhide HPOS (fun j hj1 hj7 => by
            have h7 : j = 1 ∨ j = 2 ∨ j = 3 ∨ j = 4 ∨ j = 5 ∨ j = 6 ∨ j = 7 := by omega
            rcases h7 with rfl | rfl | rfl | rfl | rfl | rfl | rfl <;> simp [fld, *]))
          clear hb9
          go_wp2_with fail
          go_ret2
          exact ⟨_, _, rfl, by rw [← unhide HXS]; exact unhide HP9, unhide HB9⟩
        all_goals
          go_ret2
          refine ⟨[], 4, rfl, ?_, unhide HBE⟩
        · exact unhide HNEG 7 (by omega) (by simpa [fld])
        · exact unhide HNEG 6 (by omega) (by simpa [fld])
        · exact unhide HNEG 5 (by omega) (by simpa [fld])
        · exact unhide HNEG 4 (by omega) (by simpa [fld])
        · exact unhide HNEG 3 (by omega) (by simpa [fld])
        · exact unhide HNEG 2 (by omega) (by simpa [fld])
        · exact unhide HNEG 1 (by omega) (by simpa [fld])
end Go.Proofs.YtcmkcgegdclllaaDoor
