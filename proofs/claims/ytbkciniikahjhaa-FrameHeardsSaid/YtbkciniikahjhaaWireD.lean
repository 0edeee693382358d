/- The contract of the reference's WirePack over whatever fields. Conditions: none beyond what each theorem states. -/
import Derived.Test.YtbkciniikahjhaaWireC
import Derived.StillTailTactics
import Derived.BigQuiet
namespace Go.Proofs.Ytbkciniikahjhaa
open Go.RowKit
set_option linter.unusedVariables false

def natCells (l : List Nat) : List Value := l.map fun b : Nat => Value.int .i64 (b : Int)
theorem natCells_snoc (l : List Nat) (b : Nat) : natCells (l ++ [b]) = natCells l ++ [.int .i64 b] := by simp [natCells]
theorem natCells_nil : natCells [] = [] := rfl
/-- the reference's list of bits -/
def BitsOwn (W w : World) (v : Value) (bs : List Nat) : Prop := (∃ A c, v = .slice A bs.length c ∧ bs.length ≤ c) ∧ w.ownsRow W.heap.size 3 1 v bs.length (natCells bs) ∧ Below W.heap.size W w
theorem BitsOwn.alloc {W w : World} {v : Value} {bs : List Nat} (H : BitsOwn W w v bs) (o : Obj) : BitsOwn W (w.alloc o) v bs := ⟨H.1, H.2.1.alloc o, H.2.2.alloc H.2.2.size o⟩
theorem BitsOwn.drew {W w : World} {v : Value} {bs : List Nat} (H : BitsOwn W w v bs) : BitsOwn W w.drew v bs := ⟨H.1, H.2.1.drew, H.2.2.drew⟩
theorem BitsOwn.drewN {W w : World} {v : Value} {bs : List Nat} (H : BitsOwn W w v bs) (n : Nat) : BitsOwn W (w.drewN n) v bs := ⟨H.1, H.2.1, below_drewN H.2.2 n⟩

def padTo (bs : List Nat) (m : Nat) : List Nat := bs ++ List.replicate (m - bs.length) 0
theorem padTo_len (bs : List Nat) (m : Nat) (h : bs.length ≤ m) : (padTo bs m).length = m := by simp [padTo]; omega
theorem padTo_self (bs : List Nat) : padTo bs bs.length = bs := by simp [padTo]
theorem padTo_succ (bs : List Nat) (m : Nat) (h : bs.length ≤ m) : padTo bs (m + 1) = padTo bs m ++ [0] := by
  unfold padTo
  rw [show m + 1 - bs.length = (m - bs.length) + 1 by omega, List.replicate_succ', List.append_assoc]
theorem padTo_le (bs : List Nat) (m : Nat) (h : ∀ b ∈ bs, b ≤ 1) : ∀ b ∈ padTo bs m, b ≤ 1 := by
  intro b hb
  rcases List.mem_append.1 hb with hb | hb
  · exact h b hb
  · rw [List.eq_of_mem_replicate hb]; omega
theorem padTo_byte (bs : List Nat) (m i : Nat) : byteOf (padTo bs m) i = byteOf bs i := bitsVal_pad bs _ _ _
def BitsOwnN (W w : World) (v : Value) (n : Nat) (bs : List Nat) : Prop := (∃ A c, v = .slice A n c ∧ n ≤ c) ∧ w.ownsRow W.heap.size 3 1 v n (natCells bs) ∧ Below W.heap.size W w
theorem own_blk_ne' {w : World} {base : Nat} {e : TypeId} {size n : Nat} {v : Value} {xs : List Value} {g : Nat} {t : TypeId} {cs : Array Value} (h : w.ownsRow base e size v n xs) (hg : Blk w g t cs) (hne : e ≠ t) : some g ≠ v.ownBlock :=
  fun he => own_blk_ne h hg hne he.symm
set_option maxHeartbeats 800000 in
set_option maxRecDepth 100000 in
theorem wirePack_ref (A : Option Addr) (n c : Nat) (fs : List (Int × Int)) (w : World) (hl : fs.length = n) (hm : n * 16 ≤ 140737488351232) (hr : Reads w w.heap.size 2 A n (fs.flatMap fldCells)) :
    Calls Try.prog 31 #[.slice A n c] w (PackPost fs w) := by
  obtain ⟨i0, hi, hz0, hz1, hz2⟩ := info_parts info_int
  obtain ⟨i8, hi8, hz80, hz81, hz82⟩ := info_parts info_u8
  have HR := hide hr
  clear hr
  have HL := hide hl
  clear hl
  go_enter Try.func31, Try.ntmps31
  go_wp2_with fail
  go_loopw [4, 20] (fun v i wr => ∃ (k : Nat), k ≤ n ∧ i = .int .i64 k ∧ wr.ownsRow w.heap.size 3 1 v k (wcells fs k) ∧ Below w.heap.size w wr) (fun _ i _ => n - (intOf i).toNat)
  case atStart => exact ⟨0, Nat.zero_le _, rfl, World.ownsRow_nil _ _ _ _, Below.refl _ _⟩
  case round =>
    obtain ⟨k, hk, rfl, hown, hb⟩ := hrel
    by_cases hlt : k < n
    · obtain ⟨b, o, f, rfl, hab, hf, hc⟩ := at_row fldCells_len (by omega) ((unhide HR).below hb) hlt (unhide HL)
      have c0 : wr.cell? ⟨b, o + k * 2, none⟩ = some (.int .i64 f.1) := hc 0 _ rfl
      have c1 : wr.cell? ⟨b, o + k * 2 + 1, none⟩ = some (.int .i64 f.2) := hc 1 _ rfl
      have HF := hide hf
      clear hc hf
      have hsz := hb.size
      go_wp2_with (first
        | (at_builtin; (refine wpList_append_new _ rfl (.tmp 24) (.tmp 27) _ rfl w.heap.size 3 i0 _ 1 8 Try.underlying22 hi hz0 hz1 hz2 rfl (by omega) (by omega) _ _ _ (hown.alloc _) rfl _ 1 _ rfl (by simp) rfl (by simp [Value.oneCell']) (by omega) (by omega) ?_); intro g cap w1 hg hown1 hbel1 _ _))
      go_roundw
      case rel => exact ⟨k + 1, by omega, by go_num, by rw [wcells_succ fs k f (unhide HF)]; exact hown1, hbel1 _ _ (Nat.le_refl _) (hb.alloc hsz _)⟩
      case measure => simp [intOf]; omega
    · obtain rfl : k = n := by omega
      obtain ⟨Aw, cw, rfl, hcw⟩ := own_slice hown
      have hrw : Reads wr wr.heap.size 1 Aw k ((fs.map (·.1)).map (Value.int .i64)) := by
        rw [← wcells_all fs, unhide HL]
        exact Reads.of_own hown
      have HC := hide (wireSize_ref Aw k cw (fs.map (·.1)) _ wr (by rw [List.length_map]; exact unhide HL) (by omega) hrw)
      clear hrw
      have HW := hide (And.intro hown hb)
      have hsz := hb.size
      clear hown hb
      rcases sizeP_cases (fs.map (·.1)) with hs | hs | ⟨N, hs, h40, hw60, hN⟩
      · have HC2 := hide (by have h := unhide HC; rw [hs] at h; exact h)
        have HP := hide (show packP fs = ([], 1) by unfold packP; rw [hs]; rfl)
        clear HC hs
        go_wp2_with fail
        refine (unhide HC2).mono ?_
        rintro e w' ⟨rfl, rfl⟩
        go_wp2_with fail
        go_ret2
        exact ⟨_, by rw [unhide HP]; rfl, by rw [unhide HP]; exact ⟨World.ownsRow_nil _ _ _ _, (unhide HW).2⟩⟩
      · have HC2 := hide (by have h := unhide HC; rw [hs] at h; exact h)
        have HP := hide (show packP fs = ([], 2) by unfold packP; rw [hs]; rfl)
        clear HC hs
        go_wp2_with fail
        refine (unhide HC2).mono ?_
        rintro e w' ⟨rfl, rfl⟩
        go_wp2_with fail
        go_ret2
        exact ⟨_, by rw [unhide HP]; rfl, by rw [unhide HP]; exact ⟨World.ownsRow_nil _ _ _ _, (unhide HW).2⟩⟩
      · have HC2 := hide (by have h := unhide HC; rw [hs] at h; exact h)
        have HP := hide (show packP fs = if fs.all fitsF then (bytesOf (allBits fs) N, 0) else ([], 12) by unfold packP; rw [hs]; simp)
        rw [← allBits_len] at hN
        have hN2 : 8 * N ≤ (allBits fs).length + 7 := by omega
        have hN3 : (allBits fs).length ≤ 8 * N := by omega
        have hk40 : k ≤ 40 := by rw [List.length_map, unhide HL] at h40; exact h40
        have hN4 : N ≤ 300 := by
          have := sum_le (fs.map (·.1)) hw60
          rw [← allBits_len] at this
          omega
        have HW60 := hide hw60
        clear HC hs hN h40 hw60
        go_wp2_with fail
        refine (unhide HC2).mono ?_
        rintro e w' ⟨rfl, rfl⟩
        go_wp2_with fail
        obtain ⟨wo, rfl⟩ : ∃ wo : World, wo = wr := ⟨_, rfl⟩
        go_loopw [9, 40] (fun v i wx => ∃ (j : Nat), j ≤ k ∧ i = .int .i64 j ∧ BitsOwn w wx v (allBits (fs.take j)) ∧ Hid ((fs.take j).all fitsF = true)) (fun _ i _ => k - (intOf i).toNat)
        case atStart => exact ⟨0, Nat.zero_le _, rfl, ⟨⟨none, 0, rfl, Nat.le_refl _⟩, World.ownsRow_nil _ _ _ _, (unhide HW).2⟩, rfl⟩
        case round =>
          obtain ⟨j, hj, rfl, HA, HO⟩ := hrel
          have HA' := hide HA
          have hszx := HA.2.2.size
          by_cases hlt2 : j < k
          · obtain ⟨b, o, f, rfl, hab, hf, hc⟩ := at_row fldCells_len (by omega) ((unhide HR).below HA.2.2) hlt2 (unhide HL)
            obtain ⟨wd, v⟩ := f
            have hwd := unhide HW60 wd (List.mem_map.2 ⟨_, List.mem_of_getElem? hf, rfl⟩)
            obtain ⟨wd, rfl⟩ := Int.eq_ofNat_of_zero_le (show 0 ≤ wd by omega)
            have hwd1 : 1 ≤ wd := by omega
            have hwd2 : wd ≤ 60 := by omega
            have c0 : wr.cell? ⟨b, o + j * 2, none⟩ = some (.int .i64 wd) := hc 0 _ rfl
            have c1 : wr.cell? ⟨b, o + j * 2 + 1, none⟩ = some (.int .i64 v) := hc 1 _ rfl
            have HF := hide hf
            have hlenj := allBits_take_le fs (j + 1)
            rw [allBits_snoc fs j _ hf, List.length_append, fieldBits_len] at hlenj
            simp only [Int.toNat_natCast] at hlenj
            have HLJ := hide hlenj
            clear hc hf hwd HA hlenj
            have HNO : fitsF ((wd : Int), v) = false → Hid (packP fs = ([], 12)) := by
              intro hno
              have : fs.all fitsF = false := by
                rw [List.all_eq_false]
                exact ⟨_, List.mem_of_getElem? (unhide HF), by rw [hno]; simp⟩
              exact hide (by rw [unhide HP, this]; rfl)
            by_cases hv0 : v < 0
            · have HQ := HNO (by simp [fitsF]; omega)
              clear HNO
              have hd : decide (v < 0) = true := by simpa using hv0
              go_wp2_with fail
              go_quiet (fail)
              go_wp2_with fail
              go_ret2
              exact ⟨_, by rw [unhide HQ]; rfl, by rw [unhide HQ]; exact ⟨World.ownsRow_nil _ _ _ _, below_drewN ((unhide HA').2.2.alloc hszx _) _⟩⟩
            · obtain ⟨v, rfl⟩ := Int.eq_ofNat_of_zero_le (show 0 ≤ v by omega)
              have hd : decide ((v : Int) < 0) = false := by simp
              clear hv0
              have hp60 := two_pow_60 hwd2
              have hp60' : (0 : Int) ≤ (2 : Int) ^ wd ∧ (2 : Int) ^ wd ≤ 1152921504606846976 := by
                have h1 : ((2 ^ wd : Nat) : Int) ≤ 1152921504606846976 := by omega
                have h0 : (0:Int) ≤ ((2 ^ wd : Nat) : Int) := Int.natCast_nonneg _
                simpa using And.intro h0 h1
              by_cases hfit : v < 2 ^ wd
              · have hfit' : ¬ ((2 : Int) ^ wd ≤ (v : Int)) := by
                  have : ((v : Nat) : Int) < ((2 ^ wd : Nat) : Int) := by omega
                  simpa using this
                have hfd : decide ((2 : Int) ^ wd ≤ (v : Int)) = false := decide_eq_false hfit'
                clear HNO
                have HFIT := hide hfit
                clear hfit
                go_wp2_with fail
                go_quiet (fail)
                go_wp2_with fail
                obtain ⟨wz, rfl⟩ : ∃ wz : World, wz = wr := ⟨_, rfl⟩
                have hv9 : v ≤ 9223372036854775807 := by have := unhide HFIT; omega
                go_loopw [9, 12] (fun q9 q wy => ∃ (t : Nat), t ≤ wd ∧ q = .int .i64 ((t : Int) + 1) ∧ BitsOwn w wy q9 (allBits (fs.take j) ++ (fieldBits ((wd : Int), (v : Int))).take t) ∧
                    Blk wy wz.heap.size 53 #[.int .i64 wd, .int .i64 v]) (fun _ q _ => wd + 1 - (intOf q).toNat)
                case atStart => exact ⟨0, Nat.zero_le _, by simp, by simpa using ((unhide HA').alloc _).drewN _, (Blk.new wz _ _).drewN _⟩
                case round =>
                  obtain ⟨t, ht, rfl, HPA, HB⟩ := hrel
                  by_cases htl : t < wd
                  · have b0 : wr.cell? ⟨wz.heap.size, 0, none⟩ = some (.int .i64 wd) := by rw [HB.cell]; rfl
                    have b1 : wr.cell? ⟨wz.heap.size, 1, none⟩ = some (.int .i64 v) := by rw [HB.cell]; rfl
                    have HBH := hide HB
                    have hbl : (allBits (fs.take j) ++ (fieldBits ((wd : Int), (v : Int))).take t).length ≤ 2400 := by
                      rw [List.length_append, List.length_take, fieldBits_len]
                      have := unhide HLJ
                      simp only [Int.toNat_natCast]
                      omega
                    have HSN := hide (fieldBits_take wd v t htl)
                    obtain ⟨bs, hbs⟩ : ∃ bs, bs = allBits (fs.take j) ++ (fieldBits ((wd : Int), (v : Int))).take t := ⟨_, rfl⟩
                    rw [← hbs] at hbl HPA
                    have HBS := hide hbs
                    have HPH := hide HPA
                    have hszy := HPA.2.2.size
                    clear HPA HB hbs
                    obtain ⟨d, hd1⟩ : ∃ d, wd - 1 - t = d := ⟨_, rfl⟩
                    have e1 : IntKind.i64.wrap ((wd : Int) - ((t : Int) + 1)) = (d : Int) := by rw [IntWalk.i64_in _ (by omega)]; omega
                    have hd60 : d ≤ 59 := by omega
                    have HD := hide hd1
                    clear hd1
                    have hpd : 1 ≤ 2 ^ d ∧ 2 ^ d ≤ 1152921504606846976 := ⟨Nat.pow_pos (by omega), two_pow_60 (by omega)⟩
                    have hpd' : (1 : Int) ≤ (2 : Int) ^ d ∧ (2 : Int) ^ d ≤ 1152921504606846976 := by
                      have h1 : ((2 ^ d : Nat) : Int) ≤ 1152921504606846976 := by omega
                      have h0 : (1:Int) ≤ ((2 ^ d : Nat) : Int) := by omega
                      simpa using And.intro h0 h1
                    have e2 : IntKind.i64.wrap ((2 : Int) ^ d) = (2 : Int) ^ d := IntWalk.i64_in _ (by omega)
                    have e3 : ¬ (2 : Int) ^ d = 0 := by omega
                    have hvd : v / 2 ^ d ≤ v := Nat.div_le_self _ _
                    have ev : ((v:Int) / 2 ^ d) = ((v / 2 ^ d : Nat) : Int) := by simp
                    have e4 : IntKind.i64.wrap ((v : Int) / (2 : Int) ^ d) = (v : Int) / (2 : Int) ^ d := by
                      have h0 : (0 : Int) ≤ ((v / 2 ^ d : Nat) : Int) := Int.natCast_nonneg _
                      have h1 : ((v / 2 ^ d : Nat) : Int) ≤ (v : Int) := Int.ofNat_le.2 hvd
                      rw [ev]; exact IntWalk.i64_in _ (by omega)
                    have E5 := hide (show ((v:Int) / 2 ^ d).tmod 2 = ((v / 2 ^ d % 2 : Nat) : Int) by rw [ev, Int.tmod_eq_emod_of_nonneg (Int.natCast_nonneg _)]; rfl)
                    clear hvd ev
                    go_wp2_with fail
                    go_region_law (refine step_append_new _ rfl (.tmp 61) (.tmp 71) _ rfl w.heap.size 3 i0 _ 1 8 Try.underlying22 hi hz0 hz1 hz2 rfl (by omega) (by omega) _ _ _ ((unhide HPH).2.1.drew) rfl _ 1 _ rfl (by simp) rfl (by simp [Value.oneCell']) (by omega) (by omega) ?_; intro g cap w1 hg hown1 hbel1 hgr1 hat1)
                    all_goals
                      clear e1 e2 e3 e4 hpd hpd' hd60
                      have HBN := hide (show Blk w1 wz.heap.size 53 #[.int .i64 wd, .int .i64 v] from (unhide HBH).drew.grown hgr1 (own_blk_ne' (unhide HPH).2.1 (unhide HBH) (by decide)))
                      have HON := hide (show BitsOwn w w1 (.slice (some ⟨g, 0, none⟩) (bs.length + 1) cap) (allBits (fs.take j) ++ (fieldBits ((wd : Int), (v : Int))).take (t + 1)) by
                        have e : allBits (fs.take j) ++ (fieldBits ((wd : Int), (v : Int))).take (t + 1) = bs ++ [v / 2 ^ d % 2] := by
                          rw [unhide HSN, ← List.append_assoc, ← unhide HBS, unhide HD]
                        rw [e]
                        have h := hown1
                        simp only [unhide E5] at h
                        refine ⟨⟨_, cap, by rw [List.length_append]; rfl, ?_⟩, ?_, hbel1 _ _ (Nat.le_refl _) (unhide HPH).2.2.drew⟩
                        · rcases own_slice hown1 with ⟨_, _, e0, hc0⟩; injection e0 with _ _ e0; subst e0; rw [List.length_append]; exact hc0
                        · rw [natCells_snoc, List.length_append]; exact h)
                      clear hown1 hbel1 hgr1 hat1
                      go_wp2_with fail
                      go_roundw
                      case rel => exact ⟨t + 1, by omega, by go_num, unhide HON, unhide HBN⟩
                      case measure => simp [intOf]; omega
                  · obtain rfl : t = wd := by omega
                    have b0 : wr.cell? ⟨wz.heap.size, 0, none⟩ = some (.int .i64 t) := by rw [HB.cell]; rfl
                    have HPN := hide HPA
                    clear HPA HB
                    go_wp2_with fail
                    go_roundw
                    case rel =>
                      refine ⟨j + 1, by omega, by go_num, ?_, ?_⟩
                      · have h := unhide HPN
                        have htk : (fieldBits ((t : Int), (v : Int))).take t = fieldBits ((t : Int), (v : Int)) := List.take_of_length_le (by rw [fieldBits_len]; simp)
                        rw [htk, ← allBits_snoc fs j _ (unhide HF)] at h
                        exact h
                      · show (fs.take (j + 1)).all fitsF = true
                        rw [take_snoc fs j _ (unhide HF), List.all_append, unhide HO]
                        have := unhide HFIT
                        simp only [List.all_cons, List.all_nil, Bool.and_true, Bool.true_and, fitsF, Int.toNat_natCast, decide_eq_true_eq]
                        exact ⟨by omega, by exact_mod_cast this⟩
                    case measure => simp [intOf]; omega
              · have HQ := HNO (by simp only [fitsF, Int.toNat_natCast, decide_eq_false_iff_not]; intro h; exact hfit (by have := h.2; exact_mod_cast this))
                have hfd : decide ((2 : Int) ^ wd ≤ (v : Int)) = true := decide_eq_true (by
                  have : ((2 ^ wd : Nat) : Int) ≤ ((v : Nat) : Int) := by omega
                  simpa using this)
                clear HNO hfit
                go_wp2_with fail
                go_quiet (fail)
                go_wp2_with fail
                go_ret2
                exact ⟨_, by rw [unhide HQ]; rfl, by rw [unhide HQ]; exact ⟨World.ownsRow_nil _ _ _ _, below_drewN ((unhide HA').2.2.alloc hszx _) _⟩⟩
          · obtain rfl : j = k := by omega
            have hall : fs.take j = fs := List.take_of_length_le (by rw [unhide HL]; exact Nat.le_refl _)
            have HQ := hide (show packP fs = (bytesOf (allBits fs) N, 0) by rw [unhide HP]; have h := unhide HO; rw [hall] at h; rw [h]; rfl)
            rw [hall] at HA HA'
            obtain ⟨bs0, hbs0⟩ : ∃ bs0, bs0 = allBits fs := ⟨_, rfl⟩
            rw [← hbs0] at HA' HQ hN2 hN3
            have HLE0 := hide (show ∀ b ∈ bs0, b ≤ 1 by rw [hbs0]; exact allBits_le fs)
            clear hall HA hbs0
            go_wp2_with fail
            go_loopw [9] (fun v wy => ∃ (m : Nat), bs0.length ≤ m ∧ m ≤ 8 * N ∧ BitsOwnN w wy v m (padTo bs0 m)) (fun v _ => 8 * N - lenOf v)
            case atStart => exact ⟨bs0.length, Nat.le_refl _, by omega, by rw [padTo_self]; exact unhide HA'⟩
            case round =>
              obtain ⟨m, hm1, hm2, HB⟩ := hrel
              obtain ⟨A9, c9, rfl, hc9⟩ := HB.1
              have HBH := hide HB
              have hszy := HB.2.2.size
              clear HB
              by_cases hlt3 : m < 8 * N
              · go_wp2_with (first
                  | (at_builtin; (refine wpList_append_new _ rfl (.tmp 79) (.tmp 80) _ rfl w.heap.size 3 i0 _ 1 8 Try.underlying22 hi hz0 hz1 hz2 rfl (by omega) (by omega) _ _ _ (unhide HBH).2.1 rfl _ 1 _ rfl rfl rfl (by simp [Value.oneCell']) (by omega) (by omega) ?_); intro g cap w1 hg hown1 hbel1 _ _))
                go_roundw
                case rel =>
                  refine ⟨m + 1, by omega, by omega, ⟨_, cap, rfl, ?_⟩, ?_, hbel1 _ _ (Nat.le_refl _) (unhide HBH).2.2⟩
                  · rcases own_slice hown1 with ⟨_, _, e0, hc0⟩; injection e0 with _ _ e0; subst e0; exact hc0
                  · rw [padTo_succ bs0 m hm1, natCells_snoc]; exact hown1
                case measure => simp [lenOf]; omega
              · obtain rfl : m = 8 * N := by omega
                have HLE := hide (padTo_le bs0 (8 * N) (unhide HLE0))
                have HB8 := hide (padTo_byte bs0 (8 * N))
                have HL1 := hide (padTo_len bs0 (8 * N) hm1)
                obtain ⟨bs1, hbs1⟩ : ∃ bs1, bs1 = padTo bs0 (8 * N) := ⟨_, rfl⟩
                rw [← hbs1] at HBH HLE HB8 HL1
                obtain ⟨wz, rfl⟩ : ∃ wz : World, wz = wr := ⟨_, rfl⟩
                clear hbs1
                go_wp2_with fail
                go_loopw [13, 14] (fun v i wy => ∃ (m : Nat), m ≤ N ∧ i = .int .i64 m ∧ wy.ownsRow w.heap.size 5 1 v m ((bytesOf bs1 m).map (Value.int .u8)) ∧ BitsOwnN w wy (.slice A9 (8 * N) c9) (8 * N) bs1) (fun _ i _ => N - (intOf i).toNat)
                case atStart => exact ⟨0, Nat.zero_le _, rfl, World.ownsRow_nil _ _ _ _, unhide HBH⟩
                case round =>
                  obtain ⟨m, hm3, rfl, hown, HBM⟩ := hrel
                  by_cases hlt4 : m < N
                  · have hne9 : ¬ c9 = 8 * m := by omega
                    have hcut := (Reads.of_own HBM.2.1).cut (k := 8 * m) (cap := c9) (by omega) hc9
                    rw [if_neg hne9] at hcut
                    obtain ⟨b9, o9, hA9, hb9, hc9'⟩ := plain_addr (Reads.of_own HBM.2.1) (by omega) (by omega)
                    subst hA9
                    have HCELL := hide (fun q (hq : q < 8) => show wr.cell? ⟨b9, o9 + 8 * m + q, none⟩ = some (.int .i64 (bs1.getD (8 * m + q) 0)) by
                      have hl := unhide HL1
                      rw [Nat.add_assoc]
                      refine hc9' _ _ ?_
                      simp [natCells, show 8 * m + q < bs1.length by omega])
                    have HOWN := hide hown
                    have HBMH := hide HBM
                    clear hcut hown HBM hc9'
                    go_wp2_with fail
                    obtain ⟨wv, rfl⟩ : ∃ wv : World, wv = wr := ⟨_, rfl⟩
                    go_loop [15, 95] (fun x q => ∃ (t : Nat), t ≤ 8 ∧ q = .int .i64 t ∧ x = .int .i64 (bitsVal bs1 (8 * m) t)) (fun _ q => 8 - (intOf q).toNat)
                    case atStart => exact ⟨0, by omega, rfl, rfl⟩
                    case round =>
                      obtain ⟨t, ht, rfl, rfl⟩ := hrel
                      have hbv := bitsVal_lt bs1 (unhide HLE) (8 * m) t
                      have hbv2 : bitsVal bs1 (8 * m) t ≤ 256 := by have := Nat.pow_le_pow_right (n := 2) (by omega) ht; omega
                      clear hbv
                      by_cases htl : t < 8
                      · have hcl := unhide HCELL t htl
                        have hb1 : bs1.getD (8 * m + t) 0 ≤ 1 := by
                          rw [List.getD_eq_getElem?_getD]
                          cases hg : bs1[8 * m + t]? with
                          | none => simp
                          | some b => exact unhide HLE b (List.mem_of_getElem? hg)
                        have HSTEP := hide (show bitsVal bs1 (8 * m) (t + 1) = 2 * bitsVal bs1 (8 * m) t + bs1.getD (8 * m + t) 0 from rfl)
                        obtain ⟨z, hz⟩ : ∃ z, z = bs1.getD (8 * m + t) 0 := ⟨_, rfl⟩
                        rw [← hz] at hcl hb1 HSTEP
                        clear hz
                        go_wp2_with fail
                        go_round
                        case rel => exact ⟨t + 1, by omega, by go_num, by rw [unhide HSTEP]; go_num⟩
                        case measure => simp [intOf]; omega
                      · obtain rfl : t = 8 := by omega
                        have hby := byteOf_le bs1 (unhide HLE) m
                        have HBY := hide (show bitsVal bs1 (8 * m) 8 = byteOf bs1 m from rfl)
                        obtain ⟨y, hy⟩ : ∃ y, y = byteOf bs1 m := ⟨_, rfl⟩
                        have hbv3 : bitsVal bs1 (8 * m) 8 ≤ 255 := hby
                        have hszv := (unhide HBMH).2.2.size
                        go_wp2_with (first
                          | (at_builtin; (refine wpList_append_new _ rfl (.tmp 104) (.tmp 107) _ rfl w.heap.size 5 i8 _ 1 1 Try.underlying26 hi8 hz80 hz81 hz82 rfl (by omega) (by omega) _ _ _ (unhide HOWN) rfl _ 1 _ rfl rfl rfl (by simp [Value.oneCell']) (by omega) (by omega) ?_); intro g cap w1 hg hown1 hbel1 hgr1 hat1))
                        have HN1 := hide (show w1.ownsRow w.heap.size 5 1 (.slice (some ⟨g, 0, none⟩) (m + 1) cap) (m + 1) ((bytesOf bs1 (m + 1)).map (Value.int .u8)) by
                          have e : bytesOf bs1 (m + 1) = bytesOf bs1 m ++ [(byteOf bs1 m : Int)] := by simp [bytesOf, List.range_succ]
                          rw [e, List.map_append]
                          exact hown1)
                        have HN2 := hide (show BitsOwnN w w1 (.slice (some ⟨b9, o9, none⟩) (8 * N) c9) (8 * N) bs1 from
                          ⟨(unhide HBMH).1, (unhide HBMH).2.1.kept hgr1 (own_own_ne (unhide HBMH).2.1 (unhide HOWN) (by decide)), hbel1 _ _ (Nat.le_refl _) (unhide HBMH).2.2⟩)
                        clear hown1 hgr1 hat1
                        go_wp2_with fail
                        go_roundw
                        case rel => exact ⟨m + 1, by omega, by go_num, unhide HN1, unhide HN2⟩
                        case measure => simp [intOf]; omega
                  · obtain rfl : m = N := by omega
                    have HEND := hide (show Packed w u13 wr (bytesOf bs0 m) from by
                      have e : bytesOf bs0 m = bytesOf bs1 m := by unfold bytesOf; exact List.map_congr_left fun i _ => by rw [unhide HB8]
                      rw [e]
                      exact ⟨by rw [show (bytesOf bs1 m).length = m by simp [bytesOf]]; exact hown, HBM.2.2⟩)
                    clear hown HBM
                    go_wp2_with fail
                    go_ret2
                    exact ⟨_, by rw [unhide HQ]; rfl, by rw [unhide HQ]; exact unhide HEND⟩
end Go.Proofs.Ytbkciniikahjhaa
