/- A rack of the reference in memory; contracts of its Held and opens. Conditions: none beyond what each theorem states. -/
import Derived.Test.YtiljallignlbgaaHoldP
import Derived.Test.YtiljallignlbgaaRegion
import Derived.Test.YtiljallignlbgaaOwnG
import Derived.Test.YtiljallignlbgaaKit
namespace Go.Proofs.Ytiljallignlbgaa
open Go.RowKit
set_option linter.unusedVariables false

def cntV (x : Int × Int) : Value := .int .i64 x.1
def lftV (x : Int × Int) : Value := .int .i64 x.2
def Rk.cells (r : Rk) (vc vl : Value) : List Value := [.int .i64 r.free, .int .i64 r.used, vc, vl]
structure RkAt (w : World) (base g o : Nat) (cs : Array Value) (r : Rk) (vc vl : Value) : Prop where
  blk : Blk w g 57 cs
  has : Has cs o (r.cells vc vl)
  oc : w.ownsRow base 3 1 vc r.rows.length (r.rows.map cntV)
  ol : w.ownsRow base 3 1 vl r.rows.length (r.rows.map lftV)
  ne : ∀ k, vc.ownBlock = some k → vl.ownBlock = some k → False
/-- the blocks of a rack -/
def RkD (g : Nat) (vc vl : Value) (k : Nat) : Prop := k = g ∨ vc.ownBlock = some k ∨ vl.ownBlock = some k
section
variable {w w' : World} {base g o : Nat} {cs : Array Value} {r : Rk} {vc vl : Value}
theorem RkAt.c0 (h : RkAt w base g o cs r vc vl) : w.cell? ⟨g, o, none⟩ = some (.int .i64 r.free) := h.blk.at_ h.has 0 rfl
theorem RkAt.c1 (h : RkAt w base g o cs r vc vl) : w.cell? ⟨g, o + 1, none⟩ = some (.int .i64 r.used) := h.blk.at_ h.has 1 rfl
theorem RkAt.c2 (h : RkAt w base g o cs r vc vl) : w.cell? ⟨g, o + 2, none⟩ = some vc := h.blk.at_ h.has 2 rfl
theorem RkAt.c3 (h : RkAt w base g o cs r vc vl) : w.cell? ⟨g, o + 3, none⟩ = some vl := h.blk.at_ h.has 3 rfl
theorem RkAt.fr (h : RkAt w base g o cs r vc vl) (i : Nat) : w.frozen? ⟨g, i, none⟩ = false := h.blk.frozen i
theorem RkAt.nc (h : RkAt w base g o cs r vc vl) : vc.ownBlock ≠ some g := own_blk_ne h.oc h.blk (by decide)
theorem RkAt.nl (h : RkAt w base g o cs r vc vl) : vl.ownBlock ≠ some g := own_blk_ne h.ol h.blk (by decide)
theorem RkAt.only {D : Nat → Prop} (h : RkAt w base g o cs r vc vl) (ho : Only D w w') (h1 : ∀ k, RkD g vc vl k → ¬ D k) : RkAt w' base g o cs r vc vl :=
  ⟨h.blk.only ho (h1 g (.inl rfl)), h.has, own_only h.oc ho (fun k hk => h1 k (.inr (.inl hk))), own_only h.ol ho (fun k hk => h1 k (.inr (.inr hk))), h.ne⟩
theorem RkAt.lt (h : RkAt w base g o cs r vc vl) : ∀ k, RkD g vc vl k → k < w.heap.size := fun k hk => by
  rcases hk with rfl | hk | hk
  · exact h.blk.lt
  · exact (h.oc.lt k hk).2
  · exact (h.ol.lt k hk).2
theorem RkAt.calm (h : RkAt w base g o cs r vc vl) (hb : Below w.heap.size w w') : RkAt w' base g o cs r vc vl :=
  h.only (D := fun k => w.heap.size ≤ k) (Only.of_below hb fun _ _ h => h) (fun k hk => by have := h.lt k hk; omega)
theorem RkAt.free_ (h : RkAt w base g o cs r vc vl) (x : Int) : RkAt (w.setCell ⟨g, o, none⟩ (.int .i64 x)) base g o (putAt cs o (({ r with free := x } : Rk).cells vc vl)) { r with free := x } vc vl :=
  ⟨h.blk.put_ (j := 0) h.has (by simp [Rk.cells]) _, Has.putAt _ _ _ (h.has.le (by simp [Rk.cells])), World.ownsRow.kept h.oc (only_setCell (World.grownBy.refl w (some g)) (.inl rfl) _) (.inr h.nc), World.ownsRow.kept h.ol (only_setCell (World.grownBy.refl w (some g)) (.inl rfl) _) (.inr h.nl), h.ne⟩
theorem RkAt.used_ (h : RkAt w base g o cs r vc vl) (x : Int) : RkAt (w.setCell ⟨g, o + 1, none⟩ (.int .i64 x)) base g o (putAt cs o (({ r with used := x } : Rk).cells vc vl)) { r with used := x } vc vl :=
  ⟨h.blk.put_ (j := 1) h.has (by simp [Rk.cells]) _, Has.putAt _ _ _ (h.has.le (by simp [Rk.cells])), World.ownsRow.kept h.oc (only_setCell (World.grownBy.refl w (some g)) (.inl rfl) _) (.inr h.nc), World.ownsRow.kept h.ol (only_setCell (World.grownBy.refl w (some g)) (.inl rfl) _) (.inr h.nl), h.ne⟩
theorem RkAt.cnt (h : RkAt w base g o cs r vc vl) : ∃ A c, vc = .slice A r.rows.length c ∧ r.rows.length ≤ c ∧ ∀ k x, r.rows[k]? = some x → ∃ q, A = some ⟨q, 0, none⟩ ∧ w.cell? ⟨q, k, none⟩ = some (.int .i64 x.1) ∧ w.frozen? ⟨q, k, none⟩ = false := by
  obtain ⟨A, c, rfl, hc⟩ := own_slice h.oc
  refine ⟨A, c, rfl, hc, fun k x hx => ?_⟩
  have hk := (List.getElem?_eq_some_iff.1 hx).1
  obtain ⟨q, cap, hv, _, _⟩ := h.oc.form (by omega)
  injection hv with hA
  subst hA
  exact ⟨q, rfl, own_cells h.oc k (by rw [List.getElem?_map, hx]; rfl), (own_isSome h.oc k (by omega)).2⟩
theorem RkAt.lft (h : RkAt w base g o cs r vc vl) : ∃ A c, vl = .slice A r.rows.length c ∧ r.rows.length ≤ c ∧ ∀ k x, r.rows[k]? = some x → ∃ q, A = some ⟨q, 0, none⟩ ∧ w.cell? ⟨q, k, none⟩ = some (.int .i64 x.2) ∧ w.frozen? ⟨q, k, none⟩ = false := by
  obtain ⟨A, c, rfl, hc⟩ := own_slice h.ol
  refine ⟨A, c, rfl, hc, fun k x hx => ?_⟩
  have hk := (List.getElem?_eq_some_iff.1 hx).1
  obtain ⟨q, cap, hv, _, _⟩ := h.ol.form (by omega)
  injection hv with hA
  subst hA
  exact ⟨q, rfl, own_cells h.ol k (by rw [List.getElem?_map, hx]; rfl), (own_isSome h.ol k (by omega)).2⟩
end
/-- what a rack always is -/
structure Rk.ok (r : Rk) (K : Nat) : Prop where
  free0 : 0 ≤ r.free
  used0 : 0 ≤ r.used
  all : r.free + heldR r.rows + r.used ≤ 1048576
  rows : ∀ x ∈ r.rows, 0 ≤ x.1 ∧ x.1 ≤ 1048576 ∧ 0 ≤ x.2 ∧ x.2 ≤ 20
  len : r.rows.length ≤ K
theorem heldR_append (a b : List (Int × Int)) : heldR (a ++ b) = heldR a + heldR b := by
  induction a with
  | nil => simp [heldR]
  | cons x l ih => obtain ⟨c, t⟩ := x; rw [List.cons_append, heldR, heldR, ih]; omega
theorem heldR_take (l : List (Int × Int)) (k : Nat) (x : Int × Int) (h : l[k]? = some x) : heldR (l.take (k + 1)) = heldR (l.take k) + (if 0 < x.2 then x.1 else 0) := by
  rw [take_snoc l k x h, heldR_append]; obtain ⟨c, t⟩ := x; simp [heldR]
theorem heldR_bound {l : List (Int × Int)} (h : ∀ x ∈ l, 0 ≤ x.1 ∧ x.1 ≤ 1048576 ∧ 0 ≤ x.2 ∧ x.2 ≤ 20) : 0 ≤ heldR l ∧ heldR l ≤ 1048576 * l.length := by
  induction l with
  | nil => simp [heldR]
  | cons x l ih =>
    obtain ⟨c, t⟩ := x
    have h1 := h (c, t) (by simp)
    have h2 := ih (fun y hy => h y (by simp [hy]))
    dsimp only at h1
    rw [heldR, List.length_cons]
    split <;> omega
theorem heldR_take_le {l : List (Int × Int)} (h : ∀ x ∈ l, 0 ≤ x.1 ∧ x.1 ≤ 1048576 ∧ 0 ≤ x.2 ∧ x.2 ≤ 20) (k : Nat) : 0 ≤ heldR (l.take k) ∧ heldR (l.take k) ≤ heldR l := by
  have h1 := heldR_bound (l := l.take k) fun x hx => h x (List.mem_of_mem_take hx)
  have h2 := heldR_bound (l := l.drop k) fun x hx => h x (List.mem_of_mem_drop hx)
  have h3 : heldR l = heldR (l.take k) + heldR (l.drop k) := by rw [← heldR_append, List.take_append_drop]
  omega
theorem opensR_append (a b : List (Int × Int)) : opensR (a ++ b) = opensR a + opensR b := by
  induction a with
  | nil => simp [opensR]
  | cons x l ih => obtain ⟨c, t⟩ := x; rw [List.cons_append, opensR, opensR, ih]; omega
theorem opensR_take (l : List (Int × Int)) (k : Nat) (x : Int × Int) (h : l[k]? = some x) : opensR (l.take (k + 1)) = opensR (l.take k) + (if 0 < x.2 then 1 else 0) := by
  rw [take_snoc l k x h, opensR_append]; obtain ⟨c, t⟩ := x; simp [opensR]
theorem opensR_le (l : List (Int × Int)) : opensR l ≤ l.length := by
  induction l with
  | nil => simp [opensR]
  | cons x l ih => obtain ⟨c, t⟩ := x; rw [opensR, List.length_cons]; split <;> omega

theorem rackHeld_any (base g o : Nat) (cs : Array Value) (r : Rk) (vc vl : Value) (w : World) (K : Nat) (h : RkAt w base g o cs r vc vl) (hr : r.ok K) (hK : K ≤ 1000000) :
    Calls Try.prog 25 #[.pointer (some ⟨g, o, none⟩)] w fun e w' => e = .returned (.int .i64 (heldR r.rows)) ∧ w = w' := by
  obtain ⟨A, c, rfl, hcA, hcnt⟩ := h.cnt
  obtain ⟨A', c', rfl, hcA', hlft⟩ := h.lft
  have c2 := h.c2
  have c3 := h.c3
  obtain ⟨n, hn⟩ : ∃ n, n = r.rows.length := ⟨_, rfl⟩
  rw [← hn] at c2 c3 hcA hcA'
  have hlen := hr.len
  rw [← hn] at hlen
  have HN := hide hn.symm
  have HR := hide hr
  have HC := hide hcnt
  have HL := hide hlft
  have hn9 : n ≤ 9223372036854775807 := by omega
  clear h hn hr hcnt hlft
  go_enter Try.func25, Try.ntmps25
  go_wp2_with fail
  go_loop [3, 10] (fun x i => ∃ k : Nat, k ≤ n ∧ i = .int .i64 k ∧ x = .int .i64 (heldR (r.rows.take k))) (fun _ i => n - (intOf i).toNat)
  case atStart => exact ⟨0, Nat.zero_le _, rfl, rfl⟩
  case round =>
    obtain ⟨k, hk, rfl, rfl⟩ := hrel
    by_cases hlt : k < n
    · obtain ⟨x, hx⟩ : ∃ x, r.rows[k]? = some x := ⟨_, List.getElem?_eq_getElem (by rw [unhide HN]; exact hlt)⟩
      obtain ⟨q, rfl, d1, _⟩ := unhide HC k x hx
      obtain ⟨q', rfl, d2, _⟩ := unhide HL k x hx
      have HT := hide (heldR_take r.rows k x hx)
      have hb := heldR_take_le (unhide HR).rows k
      have hall := (unhide HR).all
      have hf0 := (unhide HR).free0
      have hu0 := (unhide HR).used0
      have hxb := (unhide HR).rows x (List.mem_of_getElem? hx)
      obtain ⟨hx1, hx2, hx3, hx4⟩ := hxb
      have hb2 := heldR_take_le (unhide HR).rows (k + 1)
      have hkn : (k : Int) < (n : Int) := by omega
      obtain ⟨hb0, hb1⟩ := hb
      have hbb : heldR (r.rows.take k) ≤ 1048576 := by omega
      have HB := hide hb2
      generalize heldR (r.rows.take k) = q0 at *
      clear hx hall hb1 hb2
      by_cases hp : 0 < x.2
      · have HT2 := hide (show heldR (r.rows.take (k + 1)) = q0 + x.1 by rw [unhide HT, if_pos hp])
        go_wp2_with fail
        go_round
        case rel => exact ⟨k + 1, by omega, by go_num, by rw [unhide HT2]⟩
        case measure => simp [intOf]; omega
      · have HT2 := hide (show heldR (r.rows.take (k + 1)) = q0 by rw [unhide HT, if_neg hp]; omega)
        have hp' : x.2 ≤ 0 := by omega
        go_wp2_with fail
        go_round
        case rel => exact ⟨k + 1, by omega, by go_num, by rw [unhide HT2]⟩
        case measure => simp [intOf]; omega
    · obtain rfl : k = n := by omega
      go_wp2_with fail
      go_ret
      exact ⟨ret_int (by rw [List.take_of_length_le (by rw [unhide HN]; exact Nat.le_refl _)]), rfl⟩
theorem rackOpens_any (base g o : Nat) (cs : Array Value) (r : Rk) (vc vl : Value) (w : World) (K : Nat) (h : RkAt w base g o cs r vc vl) (hr : r.ok K) (hK : K ≤ 1000000) :
    Calls Try.prog 39 #[.pointer (some ⟨g, o, none⟩)] w fun e w' => e = .returned (.int .i64 (opensR r.rows)) ∧ w = w' := by
  obtain ⟨A', c', rfl, hcA', hlft⟩ := h.lft
  have c3 := h.c3
  obtain ⟨n, hn⟩ : ∃ n, n = r.rows.length := ⟨_, rfl⟩
  rw [← hn] at c3 hcA'
  have hlen := hr.len
  rw [← hn] at hlen
  have HN := hide hn.symm
  have HL := hide hlft
  have hn9 : n ≤ 9223372036854775807 := by omega
  clear h hn hr hlft
  go_enter Try.func39, Try.ntmps39
  go_wp2_with fail
  go_loop [3, 11] (fun x i => ∃ k : Nat, k ≤ n ∧ i = .int .i64 k ∧ x = .int .i64 (opensR (r.rows.take k))) (fun _ i => n - (intOf i).toNat)
  case atStart => exact ⟨0, Nat.zero_le _, rfl, rfl⟩
  case round =>
    obtain ⟨k, hk, rfl, rfl⟩ := hrel
    by_cases hlt : k < n
    · obtain ⟨x, hx⟩ : ∃ x, r.rows[k]? = some x := ⟨_, List.getElem?_eq_getElem (by rw [unhide HN]; exact hlt)⟩
      obtain ⟨q', rfl, d2, _⟩ := unhide HL k x hx
      have HT := hide (opensR_take r.rows k x hx)
      have hb := opensR_le (r.rows.take k)
      have hb2 : opensR (r.rows.take k) ≤ 1000000 := by have : (r.rows.take k).length ≤ k := List.length_take_le _ _; omega
      have hkn : (k : Int) < (n : Int) := by omega
      generalize opensR (r.rows.take k) = q0 at *
      clear hx hb
      by_cases hp : 0 < x.2
      · have HT2 := hide (show opensR (r.rows.take (k + 1)) = q0 + 1 by rw [unhide HT, if_pos hp])
        go_wp2_with fail
        go_round
        case rel => exact ⟨k + 1, by omega, by go_num, by rw [unhide HT2]; go_num⟩
        case measure => simp [intOf]; omega
      · have HT2 := hide (show opensR (r.rows.take (k + 1)) = q0 by rw [unhide HT, if_neg hp]; omega)
        have hp' : x.2 ≤ 0 := by omega
        go_wp2_with fail
        go_round
        case rel => exact ⟨k + 1, by omega, by go_num, by rw [unhide HT2]⟩
        case measure => simp [intOf]; omega
    · obtain rfl : k = n := by omega
      go_wp2_with fail
      go_ret
      exact ⟨ret_int (by rw [List.take_of_length_le (by rw [unhide HN]; exact Nat.le_refl _)]), rfl⟩
end Go.Proofs.Ytiljallignlbgaa
