/- gossip: turn, whole; what Play makes first. Conditions: none beyond what each theorem states. -/
import Derived.Test.YthmnfbnaeggknaaGosF
import Derived.Test.YthmnfbnaeggknaaShvE
import Derived.Test.YthmnfbnaeggknaaShvF
import Derived.Test.YthmnfbnaeggknaaIntIdx
import Derived.Test.YthmnfbnaeggknaaLabMay
namespace Go.Proofs.Ythmnfbnaeggknaa
open Go.RowKit
set_option linter.unusedVariables false

theorem gosTurn_any (base hb sb n c m mc : Nat) (A : Option Addr) (labs : List Nat) (G : List Nat) (SS : List (List EnR)) (w : World) (t : TurnI) (h : HouseAt w base hb sb n c m mc A labs G SS) (ht : ∀ S ∈ SS, ∀ x ∈ S, ∀ e ∈ x.es, 0 ≤ e.time ∧ e.time ≤ 2000000) :
    Calls Try.prog 34 #[.pointer (some ⟨hb, 0, none⟩), .agg (turnC t)] w (TurnPost base hb sb n c m mc A labs G w (turnP m labs t (plE SS))) := by
  by_cases hE : ¬ (t.kind < 1 ∨ 3 < t.kind) ∧ (0 ≤ t.who ∧ t.who < m) ∧ ¬ t.kind = 3 ∧ ¬ (t.label < 0 ∨ (labs.length : Int) ≤ t.label ∨ t.key < 0 ∨ 8 ≤ t.key ∨ (t.kind = 1 ∧ (t.value < 0 ∨ 255 < t.value)))
  · exact gosTurn_late base hb sb n c m mc A labs G SS w t h ht hE
  · exact gosTurn_early base hb sb n c m mc A labs G SS w t h ht hE
def badLb (b s : Int) : Bool := decide (s < 0) || decide (2 ^ b.toNat ≤ s)
theorem badLb_may (b : Nat) (hb : b ≤ 8) (z : Int) (h : mayB z = false) : badLb b z = true := by
  have hp : (2:Nat) ^ b ≤ 2 ^ 8 := Nat.pow_le_pow_right (by omega) hb
  have hp' : (2:Int) ^ b ≤ 256 := by
    have : ((2 ^ b : Nat) : Int) ≤ 256 := by omega
    simpa using this
  unfold mayB at h
  unfold badLb
  simp only [Int.toNat_natCast]
  simp at h ⊢
  omega
theorem playClo_any (z : Int) (b : Nat) (hb : b ≤ 8) (hz : z ≤ 9223372036854775807) (p : Nat) (w : World) (hp : w.cell? ⟨p, 0, none⟩ = some (.int .i64 b)) :
    Calls Try.prog 32 #[.int .i64 z, .pointer (some ⟨p, 0, none⟩)] w fun x w' => x = .returned (.bool (badLb b z)) ∧ w = w' := by
  have H := hide (labMay_any z hz w)
  cases hm : mayB z with
  | false =>
    have HF := hide (badLb_may b hb z hm)
    rw [hm] at H
    clear hm
    go_enter Try.func32, Try.ntmps32
    go_wp2_with fail
    refine (unhide H).mono ?_
    rintro _ _ ⟨rfl, rfl⟩
    go_wp2_with fail
    go_ret
    exact ⟨ret_bool (unhide HF).symm, rfl⟩
  | true =>
    rw [hm] at H
    have h2 : 0 ≤ z ∧ z ≤ 255 := by simpa [mayB] using hm
    obtain ⟨s, rfl⟩ := Int.eq_ofNat_of_zero_le h2.1
    have hs : s ≤ 255 := by omega
    have HF := hide (show badLb b s = decide ((0 : Int) < (s : Int) / 2 ^ b) by
      rw [shr_pos]
      unfold badLb
      simp only [Int.toNat_natCast]
      have e : ((2 : Int) ^ b ≤ (s : Int)) ↔ 2 ^ b ≤ s := by
        have : ((2 ^ b : Nat) : Int) = (2 : Int) ^ b := by simp
        rw [← this]; omega
      rw [Bool.eq_iff_iff]; simp [e]; omega)
    clear hm h2 hz
    go_enter Try.func32, Try.ntmps32
    go_wp2_with fail
    refine (unhide H).mono ?_
    rintro _ _ ⟨rfl, rfl⟩
    go_wp2_with fail
    go_ret
    exact ⟨ret_bool (unhide HF).symm, rfl⟩
theorem playClo_enters (args : Array Value) (W : World) : (callFunc 32 args).run Try.prog W = .ok (.enter 32 args) W :=
  callFunc_enters Try.func32 (by kernel_rfl) rfl args W
section
variable {w w' : World} {base hb sb n c m mc : Nat} {A : Option Addr} {labs : List Nat} {G : List Nat} {SS : List (List EnR)}
/-- behind a change of a row that is none of the house's -/
theorem HouseAt.own (h : HouseAt w base hb sb n c m mc A labs G SS) {e : TypeId} {size k : Nat} {v : Value} {xs : List Value} (hv : w.ownsRow base e size v k xs) (he : e ≠ 56 ∧ e ≠ 58 ∧ e ≠ 22 ∧ e ≠ 25) (hg : w.grownBy w' v.ownBlock) : HouseAt w' base hb sb n c m mc A labs G SS := by
  have ho : Only (fun k => v.ownBlock = some k) w w' := (Only.refl _ _).grown hg (fun g hg _ => hg)
  obtain ⟨cs, h1, h2⟩ := h.row
  refine ⟨h.lab.only ho (Nat.le_trans h.low.1 (Nat.le_of_lt h.house.lt)) (fun k hk e => by have := (hv.lt k e).1; omega), h.ln, h.lb, h.n8, h.m8, h.gm, h.sm, h.cap, h.house.only ho (own_blk_ne hv h.house he.1), ⟨cs, h1.only ho (own_blk_ne hv h1 he.2.1), h2⟩, fun j g S hg hS => ?_, h.nd, h.low⟩
  have hst := h.st j g S hg hS
  refine ⟨hst.1.only ho (own_blk_ne hv hst.1.blk he.2.2.1) fun r hr k hk hd => ?_, hst.2⟩
  rcases own_own_ne hv (hst.1.rows r hr) he.2.2.2 with e1 | e1
  · rw [e1] at hd; cases hd
  · exact e1 (by rw [hk, hd])
end
def nilRow (n : Nat) : Array Value := (List.replicate n (Value.slice none 0 0)).toArray
/-- the house while it is made -/
structure HouMade (w : World) (base hb n c : Nat) (A : Option Addr) (v : Value) (G : List Nat) : Prop where
  blk : Blk w hb 56 #[.slice A n c, v]
  os : w.ownsRow base 58 1 v G.length (G.map (rowV n))
  eg : ∀ g ∈ G, Blk w g 22 (nilRow n) ∧ base ≤ g
  nd : G.Nodup
  low : base ≤ hb
section
variable {w w' : World} {base hb n c : Nat} {A : Option Addr} {v : Value} {G : List Nat}
theorem HouMade.calm (h : HouMade w base hb n c A v G) (hw : Below w.heap.size w w') : HouMade w' base hb n c A v G :=
  ⟨h.blk.below hw h.blk.lt, own_below' h.os hw, fun g hg => ⟨(h.eg g hg).1.below hw (h.eg g hg).1.lt, (h.eg g hg).2⟩, h.nd, h.low⟩
theorem HouMade.put (h : HouMade w base hb n c A v G) {x : Nat} {v' : Value} (hx : Blk w x 22 (nilRow n)) (hl : base ≤ x) (hn : x ∉ G) (hg : w.grownBy w' v.ownBlock) (ho : w'.ownsRow base 58 1 v' (G.length + 1) (G.map (rowV n) ++ [rowV n x])) :
    HouMade (w'.setCell ⟨hb, 1, none⟩ v') base hb n c A v' (G ++ [x]) := by
  have h1 : Only (fun k => v.ownBlock = some k) w w' := (Only.refl _ _).grown hg (fun g hg _ => hg)
  have h2 : Only (fun k => k = hb) w' (w'.setCell ⟨hb, 1, none⟩ v') := only_put (Only.refl _ _) _ _
  have h3 : Only (fun k => v.ownBlock = some k ∨ k = hb) w (w'.setCell ⟨hb, 1, none⟩ v') := (h1.mono fun _ _ h => Or.inl h).trans h2 fun _ _ h => Or.inr h
  have hb' := (h.blk.only h1 (fun e => own_blk_ne h.os h.blk (by decide) e))
  have hex : ∀ x, Blk w x 22 (nilRow n) → Blk (w'.setCell ⟨hb, 1, none⟩ v') x 22 (nilRow n) := fun x hx => hx.only h3 (by
    rintro (e | e)
    · exact own_blk_ne h.os hx (by decide) e
    · exact hx.ne_ h.blk (by decide) e)
  refine ⟨hb'.set_ 1 v', ?_, ?_, nodup_snoc h.nd hn, h.low⟩
  · have := own_only ho h2 (fun g hg e => own_blk_ne ho hb' (by decide) (by rw [hg, e]))
    simpa using this
  · intro z hz
    rcases List.mem_append.1 hz with hz | hz
    · exact ⟨hex z (h.eg z hz).1, (h.eg z hz).2⟩
    · rw [List.mem_singleton] at hz; subst hz; exact ⟨hex z hx, hl⟩
theorem HouMade.done (h : HouMade w base hb n c A v G) {m : Nat} {labs : List Nat} (hx : G.length = m) (hm0 : 0 < m) (hm : m ≤ 60) (hn : n ≤ 1000) (hla : LabsAt w base n A labs) : ∃ sb mc, HouseAt w base hb sb n c m mc A labs G (List.replicate m (List.replicate n EnR.nil)) := by
  obtain ⟨sb, mc, cs, rfl, l1, l2, k1, k2⟩ := own_cur1 h.os (by omega)
  have hB := h.blk
  rw [hx] at hB
  refine ⟨sb, mc, hla.rd, hla.ln, hla.lb, hn, hm, hx, by simp, by omega, hB, ⟨cs, k1, fun j g hj => k2 j _ (by simp [hj, rowV])⟩, fun j g S hg hS => ?_, h.nd, h.low, l1⟩
  obtain rfl := List.eq_of_mem_replicate (List.mem_of_getElem? hS)
  have a1 := h.eg g (List.mem_of_getElem? hg)
  refine ⟨⟨?_, fun r hr => ?_, fun r hr => ?_, a1.2⟩, by simp⟩
  · have := a1.1
    rw [List.map_replicate]
    exact this
  · obtain rfl := List.eq_of_mem_replicate hr
    exact World.ownsRow_nil _ _ _ _
  · obtain rfl := List.eq_of_mem_replicate hr
    exact Nat.zero_le _
end
end Go.Proofs.Ythmnfbnaeggknaa
