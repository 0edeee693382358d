/- sameCodes, sameStores on what reads alike. Conditions: none beyond what each theorem states. -/
import Derived.Test.YthmnfbnaeggknaaGosJ
import Derived.Test.YthmnfbnaeggknaaRegI
namespace Go.Proofs.Ythmnfbnaeggknaa
open Go.RowKit
set_option linter.unusedVariables false

theorem sameCodes_any (A A' : Option Addr) (n c c' : Nat) (zs : List Int) (B : Nat) (w : World) (hl : zs.length = n) (hm : n ≤ 1000000) (hr : Reads w B 1 A n (zs.map (.int .i64))) (hr' : Reads w B 1 A' n (zs.map (.int .i64))) :
    Calls Try.prog 19 #[.slice A n c, .slice A' n c'] w fun e w' => e = .returned (.bool true) ∧ Below w.heap.size w w' := by
  have HR := hide hr
  have HR' := hide hr'
  have HL := hide hl
  clear hl hr hr'
  go_enter Try.func19, Try.ntmps19
  go_wp2_with fail
  go_loopw [5] (fun i wr => ∃ k nq : Nat, k ≤ n ∧ i = .int .i64 k ∧ wr = w.drewN nq) (fun i _ => n - (intOf i).toNat)
  case atStart => exact ⟨0, 0, Nat.zero_le _, rfl, rfl⟩
  case round =>
    obtain ⟨k, nq, hk, rfl, rfl⟩ := hrel
    by_cases hlt : k < n
    · obtain ⟨b, o, z, rfl, hbl, he, hc⟩ := at_num (unhide HR) hlt
      obtain ⟨b', o', z', rfl, hbl', he', hc'⟩ := at_num (unhide HR') hlt
      obtain rfl : z = z' := by rw [he] at he'; injection he'
      have hkn : (k : Int) < (n : Int) := by omega
      clear he he' hbl hbl'
      go_wp2_with fail
      go_quiet (fail)
      go_wp2_with fail
      go_roundw
      case rel => exact ⟨k + 1, _, by omega, by go_num, rfl⟩
      case measure => simp [intOf]; omega
    · obtain rfl : k = n := by omega
      go_wp2_with fail
      go_ret
      exact ⟨rfl, belowN (Below.refl _ _) nq⟩
theorem val_at {α : Type} (f : α → Value) {w : World} {B n : Nat} {A : Option Addr} {l : List α} (h : Reads w B 1 A n (l.map f)) {k : Nat} (hk : k < n) : ∃ b o x, A = some ⟨b, o, none⟩ ∧ b < B ∧ l[k]? = some x ∧ w.cell? ⟨b, o + k, none⟩ = some (f x) := by
  have hl : l.length = n := by have := h.1; rw [List.length_map] at this; omega
  rw [show l.map f = l.flatMap fun x => [f x] by rw [List.map_eq_flatMap]] at h
  obtain ⟨b, o, x, e, hb, hx, hc⟩ := at_row (cells := fun x => [f x]) (size := 1) (fun _ => rfl) Nat.one_pos h hk hl
  have := hc 0 _ rfl
  simp only [Nat.mul_one, Nat.add_zero] at this
  exact ⟨b, o, x, e, hb, hx, this⟩
set_option maxRecDepth 100000 in
set_option maxHeartbeats 2000000 in
theorem sameStores_any (v v' : Value) (P : List (List (List Ent))) (B : Nat) (w : World) (hv : St3 w B v P) (hv' : St3 w B v' P) (hB : B ≤ w.heap.size) (hP : P.length ≤ 1000) (hP2 : ∀ p ∈ P, p.length ≤ 1000 ∧ ∀ r ∈ p, r.length ≤ 1000) :
    Calls Try.prog 20 #[v, v'] w fun e w' => e = .returned (.bool true) ∧ Below w.heap.size w w' := by
  obtain ⟨A, c, ts, rfl, hr, ht, hp⟩ := hv
  obtain ⟨A', c', ts', rfl, hr', ht', hp'⟩ := hv'
  obtain ⟨m, hm⟩ : ∃ m, m = P.length := ⟨_, rfl⟩
  have hl : ts.length = m := by rw [hm, ← hp, List.length_map]
  have hl' : ts'.length = m := by rw [hm, ← hp', List.length_map]
  have hm1 : m ≤ 1000 := by omega
  rw [hl] at hr ⊢
  rw [hl'] at hr' ⊢
  have HR := hide (hr.more hB)
  have HR' := hide (hr'.more hB)
  have HT := hide (fun t h => (ht t h).more hB)
  have HT' := hide (fun t h => (ht' t h).more hB)
  have HP := hide hp
  have HP' := hide hp'
  have HP2 := hide hP2
  clear hr hr' ht ht' hp hp' hP2 hl hl' hm hP
  go_enter Try.func20, Try.ntmps20
  go_wp2_with fail
  go_loopw [5] (fun i wr => ∃ k : Nat, k ≤ m ∧ i = .int .i64 k ∧ Below w.heap.size w wr) (fun i _ => m - (intOf i).toNat)
  case atStart => exact ⟨0, Nat.zero_le _, rfl, Below.refl _ _⟩
  case round =>
    obtain ⟨k, hk, rfl, hz⟩ := hrel
    by_cases hlt : k < m
    · obtain ⟨b, o, t, rfl, hbl, htk, hc⟩ := val_at TabR.val ((unhide HR).below hz) hlt
      obtain ⟨b', o', t', rfl, hbl', htk', hc'⟩ := val_at TabR.val ((unhide HR').below hz) hlt
      have hes : t.rs.map EnR.es = t'.rs.map EnR.es := by
        have h1 : (ts.map fun t => t.rs.map EnR.es)[k]? = some (t.rs.map EnR.es) := by simp [htk]
        have h2 : (ts'.map fun t => t.rs.map EnR.es)[k]? = some (t'.rs.map EnR.es) := by simp [htk']
        rw [unhide HP] at h1
        rw [unhide HP', h1] at h2
        injection h2
      have hpm : t.rs.map EnR.es ∈ P := by
        rw [← unhide HP]
        exact List.mem_map.2 ⟨t, List.mem_of_getElem? htk, rfl⟩
      have hb2 := unhide HP2 _ hpm
      have hrt := unhide HT t (List.mem_of_getElem? htk)
      have hrt' := unhide HT' t' (List.mem_of_getElem? htk')
      obtain ⟨rs, tA, tc⟩ := t
      obtain ⟨rs', tA', tc'⟩ := t'
      unfold TabR.val at hc hc'
      unfold TabRd at hrt hrt'
      dsimp only at hc hc' hes hpm hb2 hrt hrt'
      obtain ⟨n, hn⟩ : ∃ n, n = rs.length := ⟨_, rfl⟩
      have hn' : rs'.length = n := by have := congrArg List.length hes; simp at this; omega
      have hn1 : n ≤ 1000 := by have := hb2.1; simp at this; omega
      rw [← hn] at hc hrt
      rw [hn'] at hc' hrt'
      have HT1 := hide hrt
      have HT2 := hide hrt'
      have HES := hide hes
      have HB2 := hide hb2.2
      have hkm : (k : Int) < (m : Int) := by omega
      have hnn : (n : Int) ≤ 1000 := by omega
      clear htk htk' hes hpm hb2 hrt hrt' hn hn'
      have g1 : ∀ W, Below w.heap.size w W → W.cell? ⟨b, o + k, none⟩ = some (.slice tA n tc) := fun W hW => (hW.cell (p := ⟨b, o + k, none⟩) hbl).trans ((hz.cell (p := ⟨b, o + k, none⟩) hbl).symm.trans hc)
      have g2 : ∀ W, Below w.heap.size w W → W.cell? ⟨b', o' + k, none⟩ = some (.slice tA' n tc') := fun W hW => (hW.cell (p := ⟨b', o' + k, none⟩) hbl').trans ((hz.cell (p := ⟨b', o' + k, none⟩) hbl').symm.trans hc')
      have f1 : ∀ n_1 : Ext wr, n_1.W.cell? ⟨b, o + k, none⟩ = some (.slice tA n tc) := fun n_1 => n_1.cell hc
      have f2 : ∀ n_1 : Ext wr, n_1.W.cell? ⟨b', o' + k, none⟩ = some (.slice tA' n tc') := fun n_1 => n_1.cell hc'
      clear hc hc'
      go_upto_region 6 with fail
      refine wp_region_calm (by kernel_rfl) (by kernel_rfl) ?_
      repeat (go_big_quiet_step (fail))
      refine wpQuiet_nil ?_
      rintro W ⟨nq, hW⟩
      have hW2 : Below w.heap.size w W := hz.trans ((hW ▸ nq.h : Below wr.heap.size wr W).mono hz.size)
      clear hW nq f1 f2 hz
      rename World => W0
      go_wp2_with fail
      go_loopw [6] (fun i wr => ∃ l : Nat, l ≤ n ∧ i = .int .i64 l ∧ Below w.heap.size w wr) (fun i _ => n - (intOf i).toNat)
      case atStart => exact ⟨0, Nat.zero_le _, rfl, hW2⟩
      case round =>
        obtain ⟨l, hl, rfl, hzl⟩ := hrel
        by_cases hlt2 : l < n
        · obtain ⟨d, p, r, rfl, hdl, hrl, hd⟩ := val_at EnR.val ((unhide HT1).1.below hzl) hlt2
          obtain ⟨d', p', r', rfl, hdl', hrl', hd'⟩ := val_at EnR.val ((unhide HT2).1.below hzl) hlt2
          have her : r.es = r'.es := by
            have h1 : (rs.map EnR.es)[l]? = some r.es := by simp [hrl]
            have h2 : (rs'.map EnR.es)[l]? = some r'.es := by simp [hrl']
            rw [unhide HES, h2] at h1
            injection h1 with h1
            exact h1.symm
          have hr8 := unhide HB2 r.es (List.mem_map.2 ⟨r, List.mem_of_getElem? hrl, rfl⟩)
          have h5 := (unhide HT1).2 r (List.mem_of_getElem? hrl)
          have h5' := (unhide HT2).2 r' (List.mem_of_getElem? hrl')
          obtain ⟨es, rA, rc⟩ := r
          obtain ⟨es', rA', rc'⟩ := r'
          unfold EnR.val at hd hd'
          dsimp only at her hr8 h5 h5' hd hd'
          subst her
          have HSE := hide (fun (W : World) (hW : Below w.heap.size w W) => sameEntries_any rA rA' es.length rc rc' es w.heap.size W rfl (by omega) (h5.below hW) (h5'.below hW))
          generalize es.length = q at hd hd' HSE hr8
          have f1 := fun n_1 : Ext wr => n_1.cell (g1 wr hzl)
          have f2 := fun n_1 : Ext wr => n_1.cell (g2 wr hzl)
          have f3 := fun n_1 : Ext wr => n_1.cell hd
          have f4 := fun n_1 : Ext wr => n_1.cell hd'
          have hln : (l : Int) < (n : Int) := by omega
          clear hrl hrl' h5 h5' hd hd'
          go_upto_region 11 with fail
          refine wp_region_calm (by kernel_rfl) (by kernel_rfl) ?_
          repeat (go_big_quiet_step ((go_at_call 14; exact calm_call ((unhide HSE _ (hzl.trans (Below.mono (Ext.h _) hzl.size))).mono fun _ _ ⟨he, nq, hw⟩ => ⟨he, hw ▸ belowN (Below.refl _ _) nq⟩))))
          refine wpQuiet_nil ?_
          rintro W ⟨nq, hW⟩
          have hW2 : Below w.heap.size w W := hzl.trans ((hW ▸ nq.h : Below wr.heap.size wr W).mono hzl.size)
          clear hW nq f1 f2 f3 f4
          go_wp2_with fail
          go_roundw
          case rel => exact ⟨l + 1, by omega, by go_num, hW2⟩
          case measure => simp [intOf]; omega
        · obtain rfl : l = n := by omega
          go_wp2_with fail
          go_roundw
          case rel => exact ⟨k + 1, by omega, by go_num, hzl⟩
          case measure => simp [intOf]; omega
    · obtain rfl : k = m := by omega
      go_wp2_with fail
      go_ret
      exact ⟨rfl, hz⟩
end Go.Proofs.Ythmnfbnaeggknaa
