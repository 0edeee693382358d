/- A shelf in memory; contracts of its held, Stock, shift, and of the function values over holds. Conditions: none beyond what each theorem states. -/
import Derived.Test.YtiljallignlbgaaHoldP
import Derived.Test.YtiljallignlbgaaOnly
import Derived.Test.YtiljallignlbgaaRegion
import Derived.Test.YtiljallignlbgaaKit
namespace Go.Proofs.Ytiljallignlbgaa
open Go.RowKit
set_option linter.unusedVariables false

def Shf.cells (s : Shf) (v : Value) : List Value := [.int .i64 s.free, .int .i64 s.used, .int .i64 s.made, v]
/-- the shelf 's' lies in block 'g' from cell 'o' on; 'v' is its row of open holds -/
structure ShAt (w : World) (base g o : Nat) (cs : Array Value) (s : Shf) (v : Value) : Prop where
  blk : Blk w g 51 cs
  has : Has cs o (s.cells v)
  own : w.ownsRow base 96 3 v s.opn.length (s.opn.flatMap Hd.cells)
section
variable {w w' : World} {base g o : Nat} {cs : Array Value} {s : Shf} {v : Value}
theorem ShAt.c0 (h : ShAt w base g o cs s v) : w.cell? ⟨g, o, none⟩ = some (.int .i64 s.free) := h.blk.at_ h.has 0 rfl
theorem ShAt.c1 (h : ShAt w base g o cs s v) : w.cell? ⟨g, o + 1, none⟩ = some (.int .i64 s.used) := h.blk.at_ h.has 1 rfl
theorem ShAt.c2 (h : ShAt w base g o cs s v) : w.cell? ⟨g, o + 2, none⟩ = some (.int .i64 s.made) := h.blk.at_ h.has 2 rfl
theorem ShAt.c3 (h : ShAt w base g o cs s v) : w.cell? ⟨g, o + 3, none⟩ = some v := h.blk.at_ h.has 3 rfl
theorem ShAt.fr (h : ShAt w base g o cs s v) (i : Nat) : w.frozen? ⟨g, i, none⟩ = false := h.blk.frozen i
theorem ShAt.ne (h : ShAt w base g o cs s v) : v.ownBlock ≠ some g := own_blk_ne h.own h.blk (by decide)
theorem ShAt.only {D : Nat → Prop} (h : ShAt w base g o cs s v) (ho : Only D w w') (h1 : ¬ D g) (h2 : ∀ k, v.ownBlock = some k → ¬ D k) : ShAt w' base g o cs s v :=
  ⟨h.blk.only ho h1, h.has, own_only h.own ho h2⟩
theorem ShAt.calm (h : ShAt w base g o cs s v) (hb : Below w.heap.size w w') : ShAt w' base g o cs s v :=
  h.only (D := fun k => w.heap.size ≤ k) (Only.of_below hb fun _ _ h => h) (by have := h.blk.lt; omega) (fun k hk => by have := (h.own.lt k hk).2; omega)
/-- one field is stored -/
theorem ShAt.free_ (h : ShAt w base g o cs s v) (x : Int) : ShAt (w.setCell ⟨g, o, none⟩ (.int .i64 x)) base g o (putAt cs o (({ s with free := x } : Shf).cells v)) { s with free := x } v :=
  ⟨h.blk.put_ (j := 0) h.has (by simp [Shf.cells]) _, Has.putAt _ _ _ (h.has.le (by simp [Shf.cells])), World.ownsRow.kept h.own (only_setCell (World.grownBy.refl w (some g)) (.inl rfl) _) (.inr h.ne)⟩
theorem ShAt.used_ (h : ShAt w base g o cs s v) (x : Int) : ShAt (w.setCell ⟨g, o + 1, none⟩ (.int .i64 x)) base g o (putAt cs o (({ s with used := x } : Shf).cells v)) { s with used := x } v :=
  ⟨h.blk.put_ (j := 1) h.has (by simp [Shf.cells]) _, Has.putAt _ _ _ (h.has.le (by simp [Shf.cells])), World.ownsRow.kept h.own (only_setCell (World.grownBy.refl w (some g)) (.inl rfl) _) (.inr h.ne)⟩
theorem ShAt.made_ (h : ShAt w base g o cs s v) (x : Int) : ShAt (w.setCell ⟨g, o + 2, none⟩ (.int .i64 x)) base g o (putAt cs o (({ s with made := x } : Shf).cells v)) { s with made := x } v :=
  ⟨h.blk.put_ (j := 2) h.has (by simp [Shf.cells]) _, Has.putAt _ _ _ (h.has.le (by simp [Shf.cells])), World.ownsRow.kept h.own (only_setCell (World.grownBy.refl w (some g)) (.inl rfl) _) (.inr h.ne)⟩
/-- the row of holds is stored anew -/
theorem ShAt.open_ {w1 : World} {l : List Hd} {u : Value} (h : ShAt w base g o cs s v) (hb : Blk w1 g 51 cs) (hown : w1.ownsRow base 96 3 u l.length (l.flatMap Hd.cells)) :
    ShAt (w1.setCell ⟨g, o + 3, none⟩ u) base g o (putAt cs o (({ s with opn := l } : Shf).cells u)) { s with opn := l } u :=
  ⟨hb.put_ (j := 3) h.has (by simp [Shf.cells]) _, Has.putAt _ _ _ (h.has.le (by simp [Shf.cells])), World.ownsRow.kept hown (only_setCell (World.grownBy.refl w1 (some g)) (.inl rfl) _) (.inr (own_blk_ne hown hb (by decide)))⟩
end

theorem heldL_take (l : List Hd) (k : Nat) (h : Hd) (hk : l[k]? = some h) : heldL (l.take (k + 1)) = heldL (l.take k) + h.count := by
  rw [take_snoc l k h hk, heldL_append]; simp [heldL]
theorem heldL_bound {l : List Hd} (h : ∀ x ∈ l, 0 ≤ x.count ∧ x.count ≤ 1048576) : 0 ≤ heldL l ∧ heldL l ≤ 1048576 * l.length := by
  induction l with
  | nil => simp [heldL]
  | cons x l ih => have := h x (by simp); have := ih (fun y hy => h y (by simp [hy])); simp [heldL]; omega

theorem shelfHeld_any (base g o : Nat) (cs : Array Value) (s : Shf) (v : Value) (w : World) (h : ShAt w base g o cs s v) (hl : s.opn.length ≤ 4) (hc : ∀ x ∈ s.opn, 0 ≤ x.count ∧ x.count ≤ 1048576) :
    Calls Try.prog 33 #[.pointer (some ⟨g, o, none⟩)] w fun e w' => e = .returned (.int .i64 (heldL s.opn)) ∧ Below w.heap.size w w' := by
  obtain ⟨A, c, rfl, hnc⟩ := own_slice h.own
  have c3 := h.c3
  have HR := hide (Reads.of_own h.own)
  have HC := hide hc
  obtain ⟨n, hn⟩ : ∃ n, n = s.opn.length := ⟨_, rfl⟩
  rw [← hn] at c3 hl hnc HR
  have HN := hide hn.symm
  clear h hn hc
  go_enter Try.func33, Try.ntmps33
  go_wp2_with fail
  go_loopw [2, 10] (fun x i wr => ∃ k : Nat, k ≤ n ∧ i = .int .i64 k ∧ x = .int .i64 (heldL (s.opn.take k)) ∧ Below w.heap.size w wr) (fun _ i _ => n - (intOf i).toNat)
  case atStart => exact ⟨0, Nat.zero_le _, rfl, rfl, Below.refl _ _⟩
  case round =>
    obtain ⟨k, hk, rfl, rfl, hb⟩ := hrel
    by_cases hlt : k < n
    · obtain ⟨b, p, x, rfl, _, hx, hcx⟩ := at_row Hd.cells_len (by omega) ((unhide HR).below hb) hlt (unhide HN)
      have e0 := hcx 0 _ rfl
      have e1 := hcx 1 _ rfl
      have e2 := hcx 2 _ rfl
      simp only [Nat.add_zero] at e0
      have hkn : (k : Int) < (n : Int) := by omega
      have HS := hide (heldL_take s.opn k x hx)
      have hbd := heldL_bound (l := s.opn.take k) fun y hy => unhide HC y (List.mem_of_mem_take hy)
      have hlk : ((s.opn.take k).length : Int) ≤ 4 := by have : (s.opn.take k).length ≤ k := List.length_take_le _ _; omega
      have hxb := unhide HC x (List.mem_of_getElem? hx)
      obtain ⟨hb1, hb2⟩ := hbd
      obtain ⟨hx1, hx2⟩ := hxb
      have hb3 : heldL (s.opn.take k) ≤ 4194304 := by omega
      generalize heldL (s.opn.take k) = q at *
      clear hx hcx hb2 hlk
      go_wp2_with fail
      go_roundw
      case rel => exact ⟨k + 1, by omega, by go_num, by rw [unhide HS], hb.alloc hb.size _⟩
      case measure => simp [intOf]; omega
    · obtain rfl : k = n := by omega
      go_wp2_with fail
      go_ret
      exact ⟨ret_int (by rw [List.take_of_length_le (by rw [unhide HN]; exact Nat.le_refl _)]), hb⟩

theorem shelfStock_any (base g o : Nat) (cs : Array Value) (s : Shf) (v : Value) (w : World) (h : ShAt w base g o cs s v) (hl : s.opn.length ≤ 4) (hc : ∀ x ∈ s.opn, 0 ≤ x.count ∧ x.count ≤ 1048576) :
    Calls Try.prog 23 #[.pointer (some ⟨g, o, none⟩)] w fun e w' => e = .returned (s.stock 0 0).val ∧ Below w.heap.size w w' := by
  obtain ⟨wx, hwx⟩ : ∃ wx, wx = w.alloc (.cells #[.int .i64 0, .int .i64 0, .int .i64 0, .int .i64 0, .int .i64 0] 28) := ⟨_, rfl⟩
  have hbx : Below w.heap.size w wx := by rw [hwx]; exact (Below.refl _ _).alloc (Nat.le_refl _) _
  have hsx : wx.heap.size = w.heap.size + 1 := by rw [hwx]; simp
  have hx := h.calm hbx
  have c0 := fun n : Ext wx => n.cell hx.c0
  have c1 := fun n : Ext wx => n.cell hx.c1
  have HH := hide (fun W (hW : Below wx.heap.size wx W) => shelfHeld_any base g o cs s v W (hx.calm hW) hl hc)
  have hk : Blk wx w.heap.size 28 #[.int .i64 0, .int .i64 0, .int .i64 0, .int .i64 0, .int .i64 0] := by rw [hwx]; exact Blk.new w 28 _
  have HK := hide hk
  have HWX := hide hwx
  have HBX := hide hbx
  have HSX := hide hsx
  clear hx h hl hc hwx hbx hsx hk
  go_enter Try.func23, Try.ntmps23
  go_wp2_with fail
  rw [← unhide HWX]
  refine wp_region_calm_tail 11 (by kernel_rfl) (by kernel_rfl) ?_
  simp only [List.take_succ_cons, List.take_zero, List.drop_succ_cons, List.drop_zero]
  repeat (go_big_quiet_step ((go_at_call 33; exact calm_call (unhide HH _ (Ext.h _)))))
  refine wpQuiet_nil ?_
  rintro _ ⟨nq, rfl⟩
  have HK2 := hide ((unhide HK).below nq.h (Blk.lt (unhide HK)))
  have d0 := (unhide HK2).cell 0
  have d1 := (unhide HK2).cell 1
  have d2 := (unhide HK2).cell 2
  have d3 := (unhide HK2).cell 3
  have d4 := (unhide HK2).cell 4
  have f0 := (unhide HK2).frozen 0
  have f1 := (unhide HK2).frozen 1
  have f2 := (unhide HK2).frozen 2
  have f3 := (unhide HK2).frozen 3
  have f4 := (unhide HK2).frozen 4
  go_wp2_with fail
  refine bodyPost_ret (v := (s.stock 0 0).val) (by simp [results, Try.results23, go_sem, d0, d1, d2, d3, d4]; rfl) rfl ⟨rfl, ?_⟩
  exact (((((((unhide HBX).trans (nq.h.mono (unhide HBX).size)).setCell (Nat.le_refl _) _).setCell (Nat.le_refl _) _).setCell (Nat.le_refl _) _).setCell (Nat.le_refl _) _).setCell (Nat.le_refl _) _)
end Go.Proofs.Ytiljallignlbgaa
