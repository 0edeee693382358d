/- Contracts of the reference's hasInt and LabOf over whatever slice of numbers. Conditions: none beyond what each theorem states. -/
import Derived.Test.YtgafnnfgkkiedaaLabOf
namespace Go.Proofs.Ytgafnnfgkkiedaa
open Go.RowKit

theorem Reads.take {w : World} {B : Nat} {A : Option Addr} {n : Nat} {xs : List Value} (h : Reads w B 1 A n xs) {k : Nat} (hk : k ≤ n) : Reads w B 1 A k (xs.take k) := by
  have hl := h.1
  refine ⟨by rw [List.length_take]; omega, fun hn => ?_⟩
  obtain ⟨ad, e, hb, hc⟩ := h.2 (by omega)
  refine ⟨ad, e, hb, fun j u hu => hc j u ?_⟩
  rw [List.getElem?_take] at hu
  split at hu
  · exact hu
  · cases hu

theorem at_int {w : World} {B n : Nat} {A : Option Addr} {zs : List Int} (h : Reads w B 1 A n (zs.map (.int .i64))) {k : Nat} (hk : k < n) :
    ∃ ad z, A = some ad ∧ ad.block < B ∧ zs[k]? = some z ∧ w.cell? (ad.add k) = some (.int .i64 z) := by
  obtain ⟨ad, u, rfl, hb, hx, hc⟩ := h.at_ hk
  rw [List.getElem?_map] at hx
  cases hz : zs[k]? with
  | none => rw [hz] at hx; cases hx
  | some z =>
    rw [hz] at hx
    injection hx with hx
    exact ⟨ad, z, rfl, hb, rfl, by rw [hc, ← hx]⟩

/-- is the number in the list? (a definition of its own, so that the walk leaves it alone) -/
def hasI : List Int → Int → Bool
  | [], _ => false
  | u :: l, z => (u == z) || hasI l z
theorem hasI_eq (l : List Int) (z : Int) : hasI l z = decide (z ∈ l) := by
  induction l with
  | nil => simp [hasI]
  | cons u l ih =>
    rw [hasI, ih]
    by_cases h : u = z
    · subst h; simp
    · have h2 : ¬ z = u := fun e => h e.symm
      simp [h, h2]

theorem hasInt_any (A : Option Addr) (n c : Nat) (zs : List Int) (z : Int) (w : World) (B : Nat) (hl : zs.length = n) (hm : n ≤ 9223372036854775807) (hr : Reads w B 1 A n (zs.map (.int .i64))) :
    Calls Try.prog 28 #[.slice A n c, .int .i64 z] w fun e w' => e = .returned (.bool (hasI zs z)) ∧ w = w' := by
  have HR := hide hr
  clear hr
  have HL := hide hl
  clear hl
  go_enter Try.func28, Try.ntmps28
  go_wp2
  go_loop [9] (fun i => ∃ k : Nat, k ≤ n ∧ i = .int .i64 k ∧ Hid (hasI (zs.drop k) z = hasI zs z)) (fun i => n - (intOf i).toNat)
  case atStart => exact ⟨0, Nat.zero_le _, rfl, rfl⟩
  case round =>
    obtain ⟨k, hk, rfl, HI⟩ := hrel
    by_cases hlt : k < n
    · obtain ⟨ad, u, rfl, _, hz, hc⟩ := at_int (unhide HR) hlt
      have HI2 := hide (by have h := unhide HI; rw [drop_cons zs k u hz, hasI] at h; exact h)
      clear HI hz
      cases he : u == z
      · have HF := hide (by
          have h := unhide HI2
          rw [he, Bool.false_or] at h
          exact h)
        clear HI2
        go_wp2_with fail
        go_round
        case rel => exact ⟨k + 1, by omega, by go_num, unhide HF⟩
        case measure => simp [intOf]; omega
      · have HF := hide (by
          have h := unhide HI2
          rw [he, Bool.true_or] at h
          exact h)
        clear HI2
        go_wp2_with fail
        go_ret
        exact ⟨by rw [← unhide HF]; rfl, rfl⟩
    · obtain rfl : k = n := by omega
      have HF := hide (by have h := unhide HI; rw [List.drop_of_length_le (by rw [unhide HL]; exact Nat.le_refl _)] at h; exact h)
      clear HI
      go_wp2_with fail
      go_ret
      exact ⟨by rw [← unhide HF]; rfl, rfl⟩

/-- is an element there that stands ahead of it, too -/
def dupFrom (zs : List Int) : Nat → Bool
  | 0 => false
  | k + 1 => dupFrom zs k || hasI (zs.take k) (zs.getD k 0)
theorem dupFrom_mono (zs : List Int) (k n : Nat) (hk : k ≤ n) (h : dupFrom zs k = true) : dupFrom zs n = true := by
  induction n with
  | zero => obtain rfl : k = 0 := by omega
            exact h
  | succ n ih =>
    by_cases e : k = n + 1
    · subst e; exact h
    · rw [dupFrom, ih (by omega)]; rfl
def ofRef (zs : List Int) : Int × Int :=
  if zs.any (fun z => decide (z < 0 ∨ 7 < z)) then (0, 2) else if dupFrom zs zs.length then (0, 7) else (((labSum (fun k => hasI zs (k : Int)) 8 : Nat) : Int), 0)

theorem labBy_29 (args : Array Value) (W : World) : (callFunc 29 args).run Try.prog W = .ok (.enter 29 args) W :=
  callFunc_enters Try.func29 (by kernel_rfl) rfl args W

theorem labRefOf1_any (A : Option Addr) (n c : Nat) (zs : List Int) (k : Nat) (w : World) (B : Nat) (hl : zs.length = n) (hm : n ≤ 9223372036854775807) (hr : Reads w B 1 A n (zs.map (.int .i64))) (pa : Addr) (ca : w.cell? pa = some (.slice A n c)) :
    Calls Try.prog 29 #[.int .i64 k, .pointer (some pa)] w fun e w' => e = .returned (.bool (hasI zs (k : Int))) ∧ w = w' := by
  have HC := hide (hasInt_any A n c zs (k : Int) w B hl hm hr)
  clear hl hr
  go_enter Try.func29, Try.ntmps29
  go_wp2_with (go_at_call 28; refine (unhide HC).mono ?_; rintro e w' ⟨rfl, rfl⟩)
  go_ret
  exact ⟨rfl, rfl⟩

set_option maxHeartbeats 400000 in
theorem labRefOf_any (A : Option Addr) (n c : Nat) (zs : List Int) (w : World) (hl : zs.length = n) (hm : n ≤ 9223372036854775807) (hnc : n ≤ c) (hr : Reads w w.heap.size 1 A n (zs.map (.int .i64))) :
    Calls Try.prog 18 #[.slice A n c] w fun e w' => e = .returned (.tuple #[.int .i64 (ofRef zs).1, .int .i64 (ofRef zs).2]) ∧ Below w.heap.size w w' := by
  have HR := hide hr
  clear hr
  have HL := hide hl
  clear hl
  go_enter Try.func18, Try.ntmps18
  go_wp2
  go_loop [9] (fun i => ∃ k : Nat, k ≤ n ∧ i = .int .i64 k ∧ Hid ((zs.drop k).any (fun z => decide (z < 0 ∨ 7 < z)) = zs.any (fun z => decide (z < 0 ∨ 7 < z)))) (fun i => n - (intOf i).toNat)
  case atStart => exact ⟨0, Nat.zero_le _, rfl, rfl⟩
  case round =>
    obtain ⟨k, hk, rfl, HI⟩ := hrel
    by_cases hlt : k < n
    · obtain ⟨ad, u, rfl, hab, hz, hc0⟩ := at_int (unhide HR) hlt
      have hc : (w.alloc (.cells #[.slice (some ad) n c] 24)).cell? (ad.add k) = some (.int .i64 u) := (World.cell?_alloc_lt w _ _ (by rw [block_of_add]; exact hab)).trans hc0
      have HI2 := hide (by have h := unhide HI; rw [drop_cons zs k u hz, List.any_cons] at h; exact h)
      clear HI hz hc0 hab
      by_cases h1 : u < 0 ∨ 7 < u
      · have HF := hide (show (ofRef zs) = (0, 2) by unfold ofRef; rw [if_pos]; rw [← unhide HI2]; simp [h1])
        clear HI2
        rcases h1 with h1 | h1
        · go_wp2_with fail
          go_ret2
          exact ⟨by rw [unhide HF]; rfl, by repeat (first | exact Below.refl _ _ | refine Below.alloc ?_ (by simp) _)⟩
        · go_wp2_with fail
          go_ret2
          exact ⟨by rw [unhide HF]; rfl, by repeat (first | exact Below.refl _ _ | refine Below.alloc ?_ (by simp) _)⟩
      · have HF := hide (by have h := unhide HI2; rw [decide_eq_false h1, Bool.false_or] at h; exact h)
        have h2 : 0 ≤ u := by omega
        have h3 : u ≤ 7 := by omega
        clear HI2 h1
        go_wp2_with fail
        go_round
        case rel => exact ⟨k + 1, by omega, by go_num, unhide HF⟩
        case measure => simp [intOf]; omega
    · obtain rfl : k = n := by omega
      have HA := hide (by have h := unhide HI; rw [List.drop_of_length_le (by rw [unhide HL]; exact Nat.le_refl _)] at h; exact h.symm)
      clear HI
      go_wp2_with fail
      go_loopw [22] (fun i wr => ∃ m : Nat, m ≤ k ∧ i = .int .i64 m ∧ Hid (∃ nq, wr = (w.alloc (.cells #[.slice A k c] 24)).drewN nq) ∧ Hid (dupFrom zs m = false)) (fun i _ => k - (intOf i).toNat)
      case atStart => exact ⟨0, Nat.zero_le _, rfl, ⟨0, rfl⟩, rfl⟩
      case round =>
        obtain ⟨m, hm2, rfl, HW, HD⟩ := hrel
        obtain ⟨nq, rfl⟩ := unhide HW
        clear HW
        by_cases hlt2 : m < k
        · obtain ⟨ad, u, rfl, hab, hz, hc0⟩ := at_int (unhide HR) hlt2
          have hc : (w.alloc (.cells #[.slice (some ad) k c] 24)).cell? (ad.add m) = some (.int .i64 u) := (World.cell?_alloc_lt w _ _ (by rw [block_of_add]; exact hab)).trans hc0
          have hbox : (w.alloc (.cells #[.slice (some ad) k c] 24)).cell? ⟨w.heap.size, 0, none⟩ = some (.slice (some ad) k c) := by simp [go_sem]
          have HC := hide (fun q : Nat => hasInt_any (some ad) m c (zs.take m) u ((w.alloc (.cells #[.slice (some ad) k c] 24)).drewN q) w.heap.size (by rw [List.length_take, unhide HL]; omega) (by omega)
            (by rw [List.map_take]; exact ((unhide HR).take (by omega)).alloc (Nat.le_refl _) _))
          have HZ := hide hz
          have hmc : (m : Int) ≤ (c : Int) := by omega
          clear hz hc0 hab hlt
          have HG := hide (show zs.getD m 0 = u by rw [List.getD_eq_getElem?_getD, unhide HZ]; rfl)
          cases hd : hasI (zs.take m) u
          all_goals
            have HC2 := hide (by have h := unhide HC; rw [hd] at h; exact h)
            have HD2 := hide (show dupFrom zs (m + 1) = hasI (zs.take m) u by rw [dupFrom, unhide HD, unhide HG, Bool.false_or])
            have HDD := hide hd
            clear HC hd
            go_wp2_with fail
            go_quiet ((go_at_call 28; exact quiet_add_left (unhide HC2 _)))
            go_wp2_with fail
          · go_roundw
            case rel => exact ⟨m + 1, by omega, by go_num, ⟨_, rfl⟩, (unhide HD2).trans (unhide HDD)⟩
            case measure => simp [intOf]; omega
          · go_ret2
            have hdup := dupFrom_mono zs (m + 1) k (by omega) ((unhide HD2).trans (unhide HDD))
            have hres : ofRef zs = (0, 7) := by
              unfold ofRef
              rw [unhide HA, unhide HL, hdup]
              rfl
            exact ⟨by rw [hres]; rfl, by repeat (first | exact Below.refl _ _ | refine below_drewN ?_ _ | refine Below.alloc ?_ (by simp) _)⟩
        · obtain rfl : m = k := by omega
          have hbox : (w.alloc (.cells #[.slice A m c] 24)).cell? ⟨w.heap.size, 0, none⟩ = some (.slice A m c) := by simp [go_sem]
          have hres : ofRef zs = (((labSum (fun k => hasI zs (k : Int)) 8 : Nat) : Int), 0) := by
            unfold ofRef
            rw [unhide HA, unhide HL, unhide HD]
            rfl
          have HRES := hide hres
          have HC := hide (fun (q : Nat) (k : Nat) (hk8 : k < 8) => labRefOf1_any A m c zs k ((w.alloc (.cells #[.slice A m c] 24)).drewN q) w.heap.size (unhide HL) hm ((unhide HR).alloc (Nat.le_refl _) _) ⟨w.heap.size, 0, none⟩ hbox)
          clear hbox hres
          go_wp2_with fail
          refine (labBy_any 29 _ (fun k => hasI zs (k : Int)) _ labBy_29 ?hclo).mono ?_
          case hclo =>
            intro k hk8
            exact unhide HC _ k hk8
          rintro e w' ⟨rfl, rfl⟩
          go_wp2_with fail
          go_ret2
          exact ⟨by rw [unhide HRES]; rfl, by repeat (first | exact Below.refl _ _ | refine below_drewN ?_ _ | refine Below.alloc ?_ (by simp) _)⟩

/-! ### The plain law -/
theorem ofGo_bad (zs : List Int) (M : Nat) (D : Bool) (h : zs.any (fun z => decide (z < 0 ∨ 7 < z)) = true) : ofGo zs M D = (0, 2) := by
  induction zs generalizing M D with
  | nil => cases h
  | cons z l ih =>
    rw [ofGo]
    by_cases h1 : z < 0 ∨ 7 < z
    · rw [if_pos h1]
    · rw [if_neg h1, ih]
      simpa [h1] using h
theorem dup_split (pre l : List Int) (z : Int) : dupFrom (pre ++ z :: l) (pre.length + 1) = (dupFrom (pre ++ z :: l) pre.length || hasI pre z) := by
  rw [dupFrom]
  congr 1
  rw [List.take_left]
  simp
theorem ofGo_good (pre l : List Int) (M : Nat) (D : Bool) (hM : ∀ k : Nat, M.testBit k = hasI pre (k : Int)) (hMl : M ≤ 255) (hD : D = dupFrom (pre ++ l) pre.length) (h : l.any (fun z => decide (z < 0 ∨ 7 < z)) = false) :
    ofGo l M D = if dupFrom (pre ++ l) (pre ++ l).length then ((0 : Int), (7 : Int)) else (((labSum (fun k => hasI (pre ++ l) (k : Int)) 8 : Nat) : Int), (0 : Int)) := by
  induction l generalizing pre M D with
  | nil =>
    rw [ofGo, hD]
    simp only [List.append_nil]
    have e : (fun k : Nat => hasI pre (k : Int)) = fun k => M.testBit k := by funext k; rw [hM]
    rw [e, labSum_testBit M (by omega)]
  | cons z l ih =>
    have h1 : ¬ (z < 0 ∨ 7 < z) := by
      intro h1
      simp only [List.any_cons, Bool.or_eq_false_iff, decide_eq_false_iff_not] at h
      exact h.1 h1
    have h2 : l.any (fun z => decide (z < 0 ∨ 7 < z)) = false := by
      simp only [List.any_cons, Bool.or_eq_false_iff] at h
      exact h.2
    rw [ofGo, if_neg h1]
    obtain ⟨j, rfl⟩ := Int.eq_ofNat_of_zero_le (show 0 ≤ z by omega)
    rw [Int.toNat_natCast]
    have hj : j ≤ 7 := by omega
    have hpow : (2:Nat)^j ≤ 128 := Nat.le_trans (Nat.pow_le_pow_right (by omega) hj) (by omega)
    have hor := Nat.or_lt_two_pow (n := 8) (show M < 2 ^ 8 by omega) (show 2 ^ j < 2 ^ 8 by omega)
    have := ih (pre ++ [(j : Int)]) (M ||| 2 ^ j) (D || M.testBit j) (by
        intro k
        rw [Nat.testBit_or, Nat.testBit_two_pow, hM, hasI_eq, hasI_eq, Bool.eq_iff_iff]
        simp only [Bool.or_eq_true, decide_eq_true_eq, List.mem_append, List.mem_singleton]
        constructor
        · rintro (h | h)
          · exact .inl h
          · exact .inr (by omega)
        · rintro (h | h)
          · exact .inl h
          · exact .inr (by omega)) (by omega) (by
        rw [hD, hM]
        simp only [List.append_assoc, List.singleton_append, List.length_append, List.length_singleton]
        rw [dup_split]) h2
    simpa using this
theorem of_eq (zs : List Int) : ofGo zs 0 false = ofRef zs := by
  unfold ofRef
  cases h : zs.any (fun z => decide (z < 0 ∨ 7 < z))
  · have := ofGo_good [] zs 0 false (by intro k; simp [hasI]) (by omega) rfl h
    simpa using this
  · exact ofGo_bad zs 0 false h

/-! ### The law -/
theorem walk_LabOfs (A : Option Addr) (n c : Nat) (zs : List Int) (w : World) (l : n ≤ c) (m : c ≤ maxLen) (e : zs.length = n) (hr : Reads w w.heap.size 1 A n (zs.map (.int .i64))) (_hw : ∀ z ∈ zs, (Lit.int .i64 z).wf = true) :
    Calls Try.prog 8 #[.slice A n c] w fun e w' => e = .returned (.bool true) ∧ Below w.heap.size w w' := by
  unfold maxLen at m
  have H1 := hide (labOf_any A n c zs w e (by omega) hr)
  have H2 := hide (labRefOf_any A n c zs w e (by omega) l hr)
  rw [← of_eq] at H2
  clear e hr l m
  go_enter Try.func8, Try.ntmps8
  go_wp2_with fail
  refine (unhide H1).mono ?_
  rintro e w' ⟨rfl, rfl⟩
  go_wp2_with fail
  refine (unhide H2).mono ?_
  rintro e w' ⟨rfl, hb⟩
  go_wp2_with fail
  go_ret
  exact ⟨by simp, hb⟩
end Go.Proofs.Ytgafnnfgkkiedaa
