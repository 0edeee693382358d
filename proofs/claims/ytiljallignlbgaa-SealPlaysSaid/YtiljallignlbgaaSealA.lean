/- seal.Office: how it lies in memory; To, From, party. Conditions: none beyond what each theorem states. -/
import Derived.Test.YtiljallignlbgaaWayMap
import Derived.Test.YtiljallignlbgaaOwnG
namespace Go.Proofs.Ytiljallignlbgaa
open Go.RowKit
set_option linter.unusedVariables false

/-- a letter that was posted, without its place -/
structure PoD where
  fr : Int
  to_ : Int
  data : List Int
structure Po where
  d : PoD
  A : Option Addr
  n : Nat
  c : Nat
def Po.cells (p : Po) : List Value := [.int .i64 p.d.fr, .int .i64 p.d.to_, .slice p.A p.n p.c]
theorem Po.cells_len (p : Po) : p.cells.length = 3 := rfl
def PoOwn (p : Po) (w : World) (base : Nat) : Prop := w.ownsRow base 5 1 (.slice p.A p.n p.c) p.n (p.d.data.map (.int .u8))
structure OfAt (w : World) (base g b : Nat) (v : Value) (l : List Po) (m : Nat) (top : Int → Int → Int) : Prop where
  blk : Blk w g 81 #[v, .map (some b)]
  own : w.ownsRow base 101 3 v l.length (l.flatMap Po.cells)
  rows : ∀ p ∈ l, PoOwn p w base
  map : WayMap w b m top
  wf : ∀ p ∈ l, (Lit.int .i64 p.d.fr).wf = true ∧ (Lit.int .i64 p.d.to_).wf = true
theorem blk_map_ne {w : World} {g b m : Nat} {t : TypeId} {cs : Array Value} {top : Int → Int → Int} (h : Blk w g t cs) (k : WayMap w b m top) : g ≠ b := fun e => by
  obtain ⟨D, ⟨es, clock, hb, _⟩, _⟩ := k
  rw [← e] at hb
  have := h.symm.trans hb
  injection this with this
  injection this
theorem own_map_ne {w : World} {base b m size n : Nat} {e : TypeId} {v : Value} {xs : List Value} {top : Int → Int → Int} (h : w.ownsRow base e size v n xs) (k : WayMap w b m top) : v.ownBlock ≠ some b := fun he => by
  rcases h.2 with ⟨rfl, _⟩ | ⟨g', cap, cur, rfl, _, hh, _⟩
  · simp [Value.ownBlock] at he
  · have hg : g' = b := by simpa [Value.ownBlock] using he
    subst hg
    exact blk_map_ne (t := e) hh k rfl
section
variable {w w' : World} {base g b m : Nat} {v : Value} {l : List Po} {top : Int → Int → Int}
theorem OfAt.c0 (h : OfAt w base g b v l m top) : w.cell? ⟨g, 0, none⟩ = some v := h.blk.cell 0
theorem OfAt.c1 (h : OfAt w base g b v l m top) : w.cell? ⟨g, 1, none⟩ = some (.map (some b)) := h.blk.cell 1
theorem OfAt.fr (h : OfAt w base g b v l m top) (i : Nat) : w.frozen? ⟨g, i, none⟩ = false := h.blk.frozen i
theorem OfAt.only {D : Nat → Prop} (h : OfAt w base g b v l m top) (ho : Only D w w') (h1 : ¬ D g) (h2 : ¬ D b) (h3 : ∀ k, v.ownBlock = some k → ¬ D k) (h4 : ∀ p ∈ l, ∀ k, (Value.slice p.A p.n p.c).ownBlock = some k → ¬ D k) : OfAt w' base g b v l m top :=
  ⟨h.blk.only ho h1, own_only h.own ho h3, fun p hp => own_only (h.rows p hp) ho (h4 p hp), h.map.only ho h2, h.wf⟩
theorem OfAt.calm (h : OfAt w base g b v l m top) (hb : Below w.heap.size w w') : OfAt w' base g b v l m top :=
  h.only (D := fun _ => False) (Only.of_below hb (fun x h1 h2 => by omega)) (fun e => e) (fun e => e) (fun _ _ e => e) (fun _ _ _ _ e => e)
end
def toP (l : List PoD) (id : Int) : Int := if id < 0 then -1 else match l[id.toNat]? with | some p => p.to_ | none => -1

theorem officeTo_any (base g b m : Nat) (v : Value) (l : List Po) (top : Int → Int → Int) (w : World) (id : Int) (h : OfAt w base g b v l m top) (hlm : l.length ≤ 9223372036854775807) :
    Calls Try.prog 40 #[.pointer (some ⟨g, 0, none⟩), .int .i64 id] w fun e w' => e = .returned (.int .i64 (toP (l.map (·.d)) id)) ∧ w = w' := by
  obtain ⟨A, c, rfl, _⟩ := own_slice h.own
  have c0 := h.c0
  by_cases h1 : id < 0
  · have HF := hide (show toP (l.map (·.d)) id = -1 from if_pos h1)
    have hd1 : decide (id < 0) = true := decide_eq_true h1
    clear h
    go_enter Try.func40, Try.ntmps40
    go_wp2_with fail
    go_ret
    exact ⟨ret_int (unhide HF).symm, rfl⟩
  obtain ⟨k, rfl⟩ := Int.eq_ofNat_of_zero_le (show 0 ≤ id by omega)
  have hd1 : decide ((k : Int) < 0) = false := decide_eq_false h1
  by_cases h2 : k < l.length
  · have hr := Reads.of_own h.own
    obtain ⟨bl, o, x, rfl, _, hx, hc⟩ := at_row Po.cells_len (by omega) hr h2 rfl
    have HF := hide (show toP (l.map (·.d)) k = x.d.to_ by unfold toP; rw [if_neg h1, Int.toNat_natCast, List.getElem?_map, hx]; rfl)
    have x1 := hc 1 _ rfl
    have h3 : (k : Int) < (l.length : Int) := by omega
    obtain ⟨n, hn⟩ : ∃ n, n = l.length := ⟨_, rfl⟩
    rw [← hn] at c0 h3 h2 hlm
    clear h hr hc hx hn h1
    go_enter Try.func40, Try.ntmps40
    go_wp2_with fail
    go_ret
    exact ⟨ret_int (unhide HF).symm, rfl⟩
  · have HF := hide (show toP (l.map (·.d)) k = -1 by unfold toP; rw [if_neg h1, Int.toNat_natCast, List.getElem?_map, List.getElem?_eq_none (by omega)]; rfl)
    have h3 : (l.length : Int) ≤ (k : Int) := by omega
    obtain ⟨n, hn⟩ : ∃ n, n = l.length := ⟨_, rfl⟩
    rw [← hn] at c0 h3 h2 hlm
    clear h hn h1
    go_enter Try.func40, Try.ntmps40
    go_wp2_with fail
    go_ret
    exact ⟨ret_int (unhide HF).symm, rfl⟩
def partyB (n : Int) : Bool := decide (0 ≤ n) && decide (n ≤ 8)
theorem party_any (n : Int) (w : World) : Calls Try.prog 26 #[.int .i64 n] w fun e w' => e = .returned (.bool (partyB n)) ∧ w = w' := by
  by_cases h1 : 0 ≤ n
  · have HF := hide (show partyB n = decide (n ≤ 8) by unfold partyB; rw [decide_eq_true h1]; rfl)
    go_enter Try.func26, Try.ntmps26
    go_wp2_with fail
    go_ret
    exact ⟨ret_bool (unhide HF).symm, rfl⟩
  · have HF := hide (show partyB n = false by unfold partyB; rw [decide_eq_false h1]; rfl)
    have h1' : n < 0 := by omega
    go_enter Try.func26, Try.ntmps26
    go_wp2_with fail
    go_ret
    exact ⟨ret_bool (unhide HF).symm, rfl⟩
end Go.Proofs.Ytiljallignlbgaa
