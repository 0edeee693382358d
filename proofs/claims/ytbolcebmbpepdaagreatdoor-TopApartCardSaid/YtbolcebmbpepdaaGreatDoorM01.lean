/- Contracts and plain facts, set together by program out of smaller texts. Conditions: none beyond what each theorem states. -/
import Derived.WalkKit
import Derived.Below
import Derived.Laws.OwnMore
import Derived.Laws.Rows
import Derived.Laws.AppendOwn
import Derived.Laws.MakeOwn
import Derived.Laws.Entries
import Derived.Deep.AppendLies
import Derived.Deep.Draws
import Derived.Deep.OwnRows
import Derived.Deep.QuietTactic
import Derived.Maps.AppendAt
import Derived.RegionTactic
import Derived.OwnWalk
import Derived.Deep.RegionLaw
import Derived.Deep.RegionHeld3
import Derived.BigQuiet
import Derived.StillTailTactics
import Derived.Deep.LoopGhost
import Derived.Deep.DeepCutAuto
import Derived.Deep.CutBlock
import Derived.Deep.DeepFit
import Derived.Test.YtbolcebmbpepdaaGreatDoorProg
namespace Go.Proofs.YtbolcebmbpepdaaGreatDoor
set_option linter.unusedVariables false
section
open Go.RowKit
theorem zTx (a : Addr) (n : Nat) : (a.add n).block = a.block := by unfold Addr.add; split <;> rfl
theorem yAb (a : Addr) (i j : Nat) : (a.add i).add j = a.add (i + j) := by
 unfold Addr.add
 by_cases hi : i = 0 <;> by_cases hj : j = 0 <;> simp [hi, hj, Nat.add_assoc]
def Reads (w : World) (B size : Nat) (A : Option Addr) (n : Nat) (xs : List Value) : Prop :=
 xs.length = n * size ∧ (0 < n → ∃ ad, A = some ad ∧ ad.block < B ∧ ∀ j u, xs[j]? = some u → w.cell? (ad.add j) = some u)
section
variable {w w' : World} {B B' size n : Nat} {A : Option Addr} {xs : List Value}
theorem Reads.none_ : Reads w B size A 0 [] := ⟨by simp, fun h => absurd h (by omega)⟩
theorem Reads.at_ {k : Nat} (h : Reads w B 1 A n xs) (hk : k < n) : ∃ ad u, A = some ad ∧ ad.block < B ∧ xs[k]? = some u ∧ w.cell? (ad.add k) = some u := by
 obtain ⟨ad, e, hb, hc⟩ := h.2 (by omega)
 have hl : k < xs.length := by have := h.1; omega
 exact ⟨ad, xs[k], e, hb, List.getElem?_eq_getElem hl, hc k _ (List.getElem?_eq_getElem hl)⟩
theorem Reads.keep (h : Reads w B size A n xs) (hk : ∀ p : Addr, p.block < B → w'.cell? p = w.cell? p) : Reads w' B size A n xs :=
 ⟨h.1, fun hn => by
  obtain ⟨ad, e, hb, hc⟩ := h.2 hn
  exact ⟨ad, e, hb, fun j u hu => (hk _ (by rw [zTx]; exact hb)).trans (hc j u hu)⟩⟩
theorem Reads.more (h : Reads w B size A n xs) (hB : B ≤ B') : Reads w B' size A n xs :=
 ⟨h.1, fun hn => by
  obtain ⟨ad, e, hb, hc⟩ := h.2 hn
  exact ⟨ad, e, by omega, hc⟩⟩
theorem Reads.below (h : Reads w B size A n xs) (hb : Below B w w') : Reads w' B size A n xs := h.keep fun _ hp => hb.cell hp
theorem Reads.drewN (h : Reads w B size A n xs) (k : Nat) : Reads (w.drewN k) B size A n xs := h
theorem Reads.alloc (h : Reads w B size A n xs) (hB : B ≤ w.heap.size) (o : Obj) : Reads (w.alloc o) B size A n xs := h.keep fun p hp => World.cell?_alloc_lt w o p (by omega)
theorem Reads.of_own {base : Nat} {e : TypeId} {c : Nat} (h : w.ownsRow base e size (.slice A n c) n xs) : Reads w w.heap.size size A n xs := by
 refine ⟨h.1, fun hn => ?_⟩
 obtain ⟨g, cap, hv, _, hlt⟩ := h.form hn
 have hA : A = some ⟨g, 0, none⟩ := by injection hv
 subst hA
 exact ⟨_, rfl, hlt, h.cells (g := g) rfl⟩
end
def Blk (w : World) (g : Nat) (t : TypeId) (cs : Array Value) : Prop := w.heap[g]? = some (.cells cs t (0, 0))
section
variable {w w' : World} {g : Nat} {t : TypeId} {cs : Array Value}
theorem Blk.lt (h : Blk w g t cs) : g < w.heap.size := by
 rcases Nat.lt_or_ge g w.heap.size with hlt | hge
 ·exact hlt
 ·unfold Blk at h; rw [Array.getElem?_eq_none hge] at h; cases h
theorem Blk.cell (h : Blk w g t cs) (i : Nat) : w.cell? ⟨g, i, none⟩ = cs[i]? := cell_of_row w g i cs t (0, 0) h
theorem Blk.frozen (h : Blk w g t cs) (i : Nat) : w.frozen? ⟨g, i, none⟩ = false := by
 unfold Blk at h
 simp [World.frozen?, h]
theorem Blk.new (w : World) (t : TypeId) (cs : Array Value) : Blk (w.alloc (.cells cs t)) w.heap.size t cs := heap_alloc_new w _
theorem Blk.drew (h : Blk w g t cs) : Blk w.drew g t cs := h
theorem Blk.drewN (h : Blk w g t cs) (n : Nat) : Blk (w.drewN n) g t cs := h
theorem Blk.alloc (h : Blk w g t cs) (o : Obj) : Blk (w.alloc o) g t cs := (Below.heap_alloc w o g h.lt).trans h
theorem Blk.set_ (h : Blk w g t cs) (i : Nat) (u : Value) : Blk (w.setCell ⟨g, i, none⟩ u) g t (cs.setIfInBounds i u) := by
 unfold Blk at h ⊢
 simp [World.setCell, Array.getElem?_modify, h]
theorem Blk.far (h : Blk w g t cs) {p : Addr} (hp : g ≠ p.block) (u : Value) : Blk (w.setCell p u) g t cs := (Below.heap_setCell w p u g hp).trans h
theorem Blk.below {B : Nat} (h : Blk w g t cs) (hb : Below B w w') (hg : g < B) : Blk w' g t cs := (hb.block g hg).trans h
theorem Blk.grown {row : Option Nat} (h : Blk w g t cs) (hb : w.grownBy w' row) (hg : some g ≠ row) : Blk w' g t cs := (hb.block g h.lt hg).trans h
theorem Blk.ne_ {g' : Nat} {t' : TypeId} {cs' : Array Value} (h : Blk w g t cs) (h' : Blk w g' t' cs') (hne : t ≠ t') : g ≠ g' := by
 rintro rfl
 unfold Blk at h h'
 rw [h] at h'
 injection h' with h'
 injection h' with _ ht
 exact hne ht
theorem zAe {base : Nat} {e : TypeId} {size n : Nat} {v : Value} {xs : List Value} (h : w.ownsRow base e size v n xs) (hg : Blk w g t cs) (hne : e ≠ t) : v.ownBlock ≠ some g := by
 rcases h.2 with ⟨rfl, _⟩ | ⟨g', cap, cur, rfl, _, hh, _⟩
 ·simp [Value.ownBlock]
 ·intro he
  have : g' = g := by simpa [Value.ownBlock] using he
  subst this
  exact Blk.ne_ (t := e) hh hg hne rfl
end
section
variable {P : Program} (w : World)
theorem zOc (base : Nat) (t ty e : TypeId) (i : TypeInfo) (size : Nat) (ht : P.underlying t = some (.slice e)) (hi : P.info? e = some i)
    (v : Value) (n : Nat) (xs : List Value) (hown : w.ownsRow base e size v n xs) (c : Nat) : (Builtin.append_ #[t, t] ty #[v, .slice none 0 c]).run P w = .ok v w := by
 rcases hown.2 with ⟨rfl, rfl⟩ | ⟨g, cap, cur, rfl, _, _, hnc, _⟩
 ·simp [Builtin.append_, run_underlying ht, sizeOf, typeInfo, hi, Builtin.lenOf, Builtin.firstCells]
 ·simp [Builtin.append_, run_underlying ht, sizeOf, typeInfo, hi, Builtin.lenOf, Builtin.firstCells, hnc, storeCells]
theorem zRe (base : Nat) (t ty e : TypeId) (i : TypeInfo) (z : Value) (size bytes : Nat) (ht : P.underlying t = some (.slice e)) (hi : P.info? e = some i) (hz : i.zero = some z)
    (hsize : i.size = size) (hby : i.bytes = bytes) (hzs : z.cells.size = size) (hsz : 0 < size)
    (v : Value) (n : Nat) (xs : List Value) (hown : w.ownsRow base e size v n xs)
    (B : Nat) (A : Option Addr) (m c : Nat) (news : List Value) (hr : Reads w B size A m news) (h1 : ∀ u ∈ news, u.oneCell' = true)
    (h63 : n + m ≤ maxLen) (hbytes : (n + m) * bytes ≤ 140737488355328) (hbase : base ≤ w.heap.size) :
    ∃ v' w', (Builtin.append_ #[t, t] ty #[v, .slice A m c]).run P w = .ok v' w' ∧ w'.ownsRow base e size v' (n + m) (xs ++ news) ∧ w.grownBy w' v.ownBlock ∧
     (v'.ownBlock = v.ownBlock ∨ v'.ownBlock = some w.heap.size) := by
 rcases A with _ | ad
 ·have hm : m = 0 := by
   rcases Nat.eq_zero_or_pos m with h0 | h0
   ·exact h0
   ·obtain ⟨ad, h, _⟩ := hr.2 h0
    cases h
  subst hm
  have hn : news = [] := List.eq_nil_of_length_eq_zero (by simpa using hr.1)
  subst hn
  exact ⟨v, w, zOc w base t ty e i size ht hi v n xs hown c, by simpa using hown, World.grownBy.refl w _, .inl rfl⟩
 ·have hcells : ∀ j u, news[j]? = some u → w.cell? (ad.add j) = some u := by
   intro j u hu
   rcases Nat.eq_zero_or_pos m with h0 | h0
   ·subst h0
    have hn : news = [] := List.eq_nil_of_length_eq_zero (by simpa using hr.1)
    subst hn
    simp at hu
   ·obtain ⟨ad', h, _, hc⟩ := hr.2 h0
    injection h with h
    subst h
    exact hc j u hu
  obtain ⟨v', w', hrun, h2, h3, _, h5⟩ := run_append_own_at (P := P) w base t ty e i z size bytes ht hi hz hsize hby hzs hsz v n xs hown ad m c news hr.1 hcells h1 h63 hbytes hbase
  exact ⟨v', w', hrun, h2, h3, h5⟩
theorem zMi {o : Oper} {a : Act} {K : Act → World → Prop} {Q : Exit → Act → World → Prop} (s x : Operand) (t : TypeId)
    (ho : o.op = .call { callee := .builtin .append, args := #[s, x], argTypes := #[t, t] })
    (base : Nat) (e : TypeId) (i : TypeInfo) (z : Value) (size bytes : Nat) (ht : P.underlying t = some (.slice e)) (hi : P.info? e = some i) (hz : i.zero = some z)
    (hsize : i.size = size) (hby : i.bytes = bytes) (hzs : z.cells.size = size) (hsz : 0 < size)
    (v : Value) (n : Nat) (xs : List Value) (hs : a.eval s = v) (hown : w.ownsRow base e size v n xs)
    (B : Nat) (A : Option Addr) (m c : Nat) (news : List Value) (hx : a.eval x = .slice A m c) (hr : Reads w B size A m news) (h1 : ∀ u ∈ news, u.oneCell' = true)
    (h63 : n + m ≤ maxLen) (hbytes : (n + m) * bytes ≤ 140737488355328) (hbase : base ≤ w.heap.size)
    (h : ∀ v' w', w'.ownsRow base e size v' (n + m) (xs ++ news) → w.grownBy w' v.ownBlock → (v'.ownBlock = v.ownBlock ∨ v'.ownBlock = some w.heap.size) → K (a.put o.dst v') w') : o.wp P a w K Q := by
 obtain ⟨v', w', hrun, h2, h3, h4⟩ := zRe (P := P) w base t o.type e i z size bytes ht hi hz hsize hby hzs hsz v n xs hown B A m c news hr h1 h63 hbytes hbase
 unfold Oper.wp execOp
 simp only [ho, resolve, invoke, builtin, Sem.run_bind, Sem.run_pure, Result.andThen_ok, List.map_toArray, List.map_cons, List.map_nil, hs, hx, hrun]
 exact h v' w' h2 h3 h4
theorem zAr {ops : Array Oper} {rest : List Oper} {o : Oper} {a : Act} {Q : Exit → Act → World → Prop} (hgd : o.guard = none) (s x : Operand) (t : TypeId)
    (ho : o.op = .call { callee := .builtin .append, args := #[s, x], argTypes := #[t, t] })
    (base : Nat) (e : TypeId) (i : TypeInfo) (z : Value) (size bytes : Nat) (ht : P.underlying t = some (.slice e)) (hi : P.info? e = some i) (hz : i.zero = some z)
    (hsize : i.size = size) (hby : i.bytes = bytes) (hzs : z.cells.size = size) (hsz : 0 < size)
    (v : Value) (n : Nat) (xs : List Value) (hs : a.eval s = v) (hown : w.ownsRow base e size v n xs)
    (B : Nat) (A : Option Addr) (m c : Nat) (news : List Value) (hx : a.eval x = .slice A m c) (hr : Reads w B size A m news) (h1 : ∀ u ∈ news, u.oneCell' = true)
    (h63 : n + m ≤ maxLen) (hbytes : (n + m) * bytes ≤ 140737488355328) (hbase : base ≤ w.heap.size)
    (h : ∀ v' w', w'.ownsRow base e size v' (n + m) (xs ++ news) → w.grownBy w' v.ownBlock → (v'.ownBlock = v.ownBlock ∨ v'.ownBlock = some w.heap.size) → wpList P ops Q rest (a.put o.dst v') w') : wpList P ops Q (o :: rest) a w :=
 wpList_plain hgd fun _ hK => zMi w s x t ho base e i z size bytes ht hi hz hsize hby hzs hsz v n xs hs hown B A m c news hx hr h1 h63 hbytes hbase fun v' w' h2 h3 h4 => hK _ _ (h v' w' h2 h3 h4)
end
theorem yDl {P : Program} {f : FuncId} {args : Array Value} {w : World} {a n : Nat} {v : Value}
    (h : Calls P f args (w.drewN (a + n)) fun e w' => e = .returned v ∧ ∃ m, w' = (w.drewN (a + n)).drewN m) :
    Calls P f args (w.drewN (a + n)) fun e w'' => e = .returned v ∧ ∃ m, w'' = w.drewN (a + m) :=
 h.mono fun _ _ ⟨he, m, hm⟩ => ⟨he, n + m, by rw [hm, World.drewN_drewN, Nat.add_assoc]⟩
theorem zRq {P : Program} {f : FuncId} {args : Array Value} {w : World} {a n : Nat} {v : Value}
    (h : Calls P f args (w.drewN (a + n)) fun e w' => e = .returned v ∧ w.drewN (a + n) = w') :
    Calls P f args (w.drewN (a + n)) fun e w'' => e = .returned v ∧ ∃ m, w'' = w.drewN (a + m) :=
 h.mono fun _ _ ⟨he, hm⟩ => ⟨he, n, hm.symm⟩
theorem yAq {P : Program} {f : FuncId} {args : Array Value} {w : World} {n : Nat} {v : Value}
    (h : Calls P f args (w.drewN n) fun e w' => e = .returned v ∧ w.drewN n = w') : Calls P f args (w.drewN n) fun e w'' => e = .returned v ∧ ∃ m, w'' = w.drewN m :=
 h.mono fun _ _ ⟨he, hm⟩ => ⟨he, n, hm.symm⟩
theorem zKa {fn : Func} {t u v x : Tmp} (h : fn.results = #[.tmp t, .tmp u, .tmp v, .tmp x]) (tmps : Array Value) (P : Program) (w : World) :
    (results fn tmps).run P w = .ok (.tuple #[tmps.getD t undef, tmps.getD u undef, tmps.getD v undef, tmps.getD x undef]) w := by simp [results, h]
theorem below_drewN {B : Nat} {a w : World} (h : Below B a w) (n : Nat) : Below B a (w.drewN n) := ⟨h.os, h.tape, h.output, h.size, h.block⟩
theorem yDp {a w : World} {row : Option Nat} (h : a.grownBy w row) : a.grownBy w.drew row := ⟨h.os, h.tape, h.output, h.size, h.block⟩
theorem zGi {a w : World} {g : Nat} (h : a.grownBy w (some g)) {p : Addr} (hp : p.block = g ∨ a.heap.size ≤ p.block) (u : Value) : a.grownBy (w.setCell p u) (some g) :=
 ⟨h.os, h.tape, h.output, by simpa [World.setCell] using h.size, fun i hi hne => (Below.heap_setCell w p u i (by
  rintro rfl
  rcases hp with hp | hp
  ·exact hne (by rw [hp])
  ·omega)).trans (h.block i hi hne)⟩
theorem zDn {P : Program} (t e : TypeId) (i : TypeInfo) (z : Value) (ht : P.underlying t = some (.slice e)) (hi : P.info? e = some i) (hz : i.zero = some z)
    (kl kc : IntKind) (n c : Nat) (hnc : n ≤ c) (hbytes : i.bytes * c ≤ 281474976710656) (h63 : c ≤ 9223372036854775807) (w : World) :
    (Instr.makeSlice t (.int kl (n : Int)) (.int kc (c : Int))).run P w = .ok (.slice (some ⟨w.heap.size, 0, none⟩) n c) (w.alloc (.cells (madeCells z.cells (c * i.size)) e)) := by
 have hb : (i.bytes : Int) * (c : Int) ≤ 281474976710656 := by
  have h : ((i.bytes * c : Nat) : Int) ≤ 281474976710656 := by omega
  rwa [Int.natCast_mul] at h
 have hr := run_make (P := P) w t e i z ht hi hz kl kc n c (by omega) (by omega) hb (by omega)
 simp only [Int.toNat_natCast] at hr
 exact hr
theorem zVn {a b c : World} {row : Option Nat} (h : a.grownBy b none) (k : b.grownBy c row) : a.grownBy c row :=
 ⟨k.os.trans h.os, k.tape.trans h.tape, k.output.trans h.output, Nat.le_trans h.size k.size, fun i hi hne => (k.block i (Nat.lt_of_lt_of_le hi h.size) hne).trans (h.block i hi (by simp))⟩
theorem zSt {P : Program} {o : Oper} {a : Act} {K : Act → World → Prop} {Q : Exit → Act → World → Prop} (w0 : World) (s x : Operand) (t : TypeId)
    (ho : o.op = .call { callee := .builtin .append, args := #[s, x], argTypes := #[t, t] })
    (base : Nat) (e : TypeId) (i : TypeInfo) (z : Value) (size bytes : Nat) (ht : P.underlying t = some (.slice e)) (hi : P.info? e = some i) (hz : i.zero = some z)
    (hsize : i.size = size) (hby : i.bytes = bytes) (hzs : z.cells.size = size) (hsz : 0 < size) (hb0 : 0 < bytes)
    (v : Value) (n : Nat) (xs : List Value) (hown : w0.ownsRow base e size v n xs) (hs : a.eval s = v)
    (cs : Array Value) (c g0 : Nat) (hx : a.eval x = .slice (some ⟨g0, 0, none⟩) 1 c) (hg0 : w0.heap.size = g0) (hcs : cs.size = size) (h1 : ∀ u ∈ cs.toList, u.oneCell' = true)
    (hbytes : (n + 1) * bytes ≤ 140737488355328) (hbase : base ≤ g0)
    (h : ∀ g cap w', base ≤ g → w'.ownsRow base e size (.slice (some ⟨g, 0, none⟩) (n + 1) cap) (n + 1) (xs ++ cs.toList) → (∀ B A, B ≤ base → Below B A w0 → Below B A w') → w0.grownBy w' v.ownBlock →
     (some g = v.ownBlock ∨ g = g0 + 1) → K (a.put o.dst (.slice (some ⟨g, 0, none⟩) (n + 1) cap)) w') : o.wp P a (w0.alloc (.cells cs e)) K Q := by
 subst hg0
 have hblk := Blk.new w0 e cs
 have hsize' : (w0.alloc (.cells cs e)).heap.size = w0.heap.size + 1 := by simp
 have hr : Reads (w0.alloc (.cells cs e)) (w0.heap.size + 1) size (some ⟨w0.heap.size, 0, none⟩) 1 cs.toList := by
  refine ⟨by simpa using hcs, fun _ => ⟨_, rfl, by simp, fun j u hj => ?_⟩⟩
  have : (⟨w0.heap.size, 0, none⟩ : Addr).add j = ⟨w0.heap.size, j, none⟩ := by unfold Addr.add; split <;> simp_all
  rw [this, hblk.cell]
  simpa using hj
 have hn : n + 1 ≤ maxLen := by
  have : n + 1 ≤ (n + 1) * bytes := Nat.le_mul_of_pos_right _ hb0
  unfold maxLen
  omega
 refine zMi (w0.alloc (.cells cs e)) s x t ho base e i z size bytes ht hi hz hsize hby hzs hsz v n xs hs (hown.alloc _) (w0.heap.size + 1) (some ⟨w0.heap.size, 0, none⟩) 1 c cs.toList hx hr h1 hn hbytes (by omega) ?_
 intro v' w' hown' hg hat
 have hg0 : w0.grownBy w' v.ownBlock := zVn (World.grownBy_alloc w0 _ none) hg
 have hlt := hown.lt
 obtain ⟨g, cap, hv, hgb, hglt⟩ := hown'.form (by omega)
 subst hv
 refine h g cap w' hgb hown' (fun B A hB hA => hA.grown hg0 (by omega) (fun k hk => by have := (hlt k hk).1; omega)) hg0 ?_
 rcases hat with e1 | e1
 ·exact .inl (by simpa [Value.ownBlock] using e1)
 ·exact .inr (by simpa [Value.ownBlock] using e1)
theorem zAl {P : Program} {ops : Array Oper} {rest : List Oper} {o : Oper} {a : Act} {Q : Exit → Act → World → Prop} (w0 : World) (hgd : o.guard = none) (s x : Operand) (t : TypeId)
    (ho : o.op = .call { callee := .builtin .append, args := #[s, x], argTypes := #[t, t] })
    (base : Nat) (e : TypeId) (i : TypeInfo) (z : Value) (size bytes : Nat) (ht : P.underlying t = some (.slice e)) (hi : P.info? e = some i) (hz : i.zero = some z)
    (hsize : i.size = size) (hby : i.bytes = bytes) (hzs : z.cells.size = size) (hsz : 0 < size) (hb0 : 0 < bytes)
    (v : Value) (n : Nat) (xs : List Value) (hown : w0.ownsRow base e size v n xs) (hs : a.eval s = v)
    (cs : Array Value) (c g0 : Nat) (hx : a.eval x = .slice (some ⟨g0, 0, none⟩) 1 c) (hg0 : w0.heap.size = g0) (hcs : cs.size = size) (h1 : ∀ u ∈ cs.toList, u.oneCell' = true)
    (hbytes : (n + 1) * bytes ≤ 140737488355328) (hbase : base ≤ g0)
    (h : ∀ g cap w', base ≤ g → w'.ownsRow base e size (.slice (some ⟨g, 0, none⟩) (n + 1) cap) (n + 1) (xs ++ cs.toList) → (∀ B A, B ≤ base → Below B A w0 → Below B A w') → w0.grownBy w' v.ownBlock →
     (some g = v.ownBlock ∨ g = g0 + 1) → wpList P ops Q rest (a.put o.dst (.slice (some ⟨g, 0, none⟩) (n + 1) cap)) w') : wpList P ops Q (o :: rest) a (w0.alloc (.cells cs e)) :=
 wpList_plain hgd fun _ hK => zSt w0 s x t ho base e i z size bytes ht hi hz hsize hby hzs hsz hb0 v n xs hown hs cs c g0 hx hg0 hcs h1 hbytes hbase fun g cap w' h2 h3 h4 h5 h6 => hK _ _ (h g cap w' h2 h3 h4 h5 h6)
theorem zDs {w : World} {base base' size size' n n' : Nat} {e e' : TypeId} {v v' : Value} {xs xs' : List Value} (h : w.ownsRow base e size v n xs) (h' : w.ownsRow base' e' size' v' n' xs') (hne : e ≠ e') : v.ownBlock = none ∨ v.ownBlock ≠ v'.ownBlock := by
 rcases h.2 with ⟨rfl, _⟩ | ⟨g, cap, cur, rfl, _, hh, _⟩
 ·exact .inl rfl
 ·right
  intro he
  exact zAe (g := g) h' hh (Ne.symm hne) (by rw [← he]; rfl)
theorem zAf {w : World} {base size n : Nat} {e : TypeId} {v : Value} {xs : List Value} (h : w.ownsRow base e size v n xs) : ∃ A c, v = .slice A n c ∧ n ≤ c := by
 rcases h.2 with ⟨rfl, rfl⟩ | ⟨g, cap, cur, rfl, _, _, hn, _⟩
 ·exact ⟨none, 0, rfl, Nat.le_refl _⟩
 ·exact ⟨_, cap, rfl, hn⟩
theorem zBp {α : Type} (l : List α) (k : Nat) (x : α) (h : l[k]? = some x) : l.take (k + 1) = l.take k ++ [x] := by
 rw [List.take_add_one, h]; rfl
theorem zQw {α β : Type} (f : α → β) (l : List α) : (l.map fun z => [f z]).flatten = l.map f := by
 induction l with
 | nil => rfl
 | cons z zs ih => simp [ih]
theorem zIl {α : Type} (size : Nat) : ∀ (css : List (List α)), (∀ cs ∈ css, cs.length = size) → ∀ i r, r < size → css.flatten[i * size + r]? = (css[i]?).bind (·[r]?)
 | [], _, i, r, _ => by simp
 | c :: css, h, 0, r, hr => by
  have hc := h c (by simp)
  simp [List.getElem?_append_left (show r < c.length by omega)]
 | c :: css, h, i + 1, r, hr => by
  have hc := h c (by simp)
  rw [List.flatten_cons, List.getElem?_append_right (by rw [hc, Nat.succ_mul]; omega), show (i + 1) * size + r - c.length = i * size + r from by rw [hc, Nat.succ_mul]; omega,
   zIl size css (fun cs hcs => h cs (by simp [hcs])) i r hr]
  simp
theorem zEk {α : Type} (cells : α → List Value) (size : Nat) (hs : ∀ x, (cells x).length = size) (xs : List α) (k j : Nat) (hj : j < size) : (xs.flatMap cells)[k * size + j]? = (xs[k]?).bind fun x => (cells x)[j]? := by
 rw [List.flatMap_def, zIl size _ (by intro cs hcs; simp at hcs; obtain ⟨x, _, rfl⟩ := hcs; exact hs x) k j hj, List.getElem?_map]
 cases xs[k]? <;> rfl
theorem zPx {w : World} {B size n : Nat} {A : Option Addr} {xs : List Value} (h : Reads w B size A n xs) (hn : 0 < n) (hs : 0 < size) : ∃ b o, A = some ⟨b, o, none⟩ ∧ b < B ∧ ∀ j u, xs[j]? = some u → w.cell? ⟨b, o + j, none⟩ = some u := by
 obtain ⟨⟨b, o, sp⟩, e, hb, hc⟩ := h.2 hn
 have hl : 0 < xs.length := by rw [h.1]; exact Nat.mul_pos hn hs
 have h0 := hc 0 _ (List.getElem?_eq_getElem hl)
 have hsp : sp = none := by simpa [Addr.add] using World.cell?_spot h0
 subst hsp
 refine ⟨b, o, e, hb, fun j u hj => ?_⟩
 have := hc j u hj
 unfold Addr.add at this
 split at this
 ·rename_i h0; subst h0; exact this
 ·exact this
theorem zCf {α : Type} {cells : α → List Value} {size : Nat} (hs : ∀ x, (cells x).length = size) (h0 : 0 < size) {w : World} {B n : Nat} {A : Option Addr} {xs : List α} (h : Reads w B size A n (xs.flatMap cells)) {k : Nat} (hk : k < n) (hl : xs.length = n) :
    ∃ b o x, A = some ⟨b, o, none⟩ ∧ b < B ∧ xs[k]? = some x ∧ ∀ j u, (cells x)[j]? = some u → w.cell? ⟨b, o + k * size + j, none⟩ = some u := by
 obtain ⟨b, o, e, hb, hc⟩ := zPx h (by omega) h0
 have hx : xs[k]? = some (xs[k]'(by omega)) := List.getElem?_eq_getElem (by omega)
 refine ⟨b, o, _, e, hb, hx, fun j u hj => ?_⟩
 have hjs : j < size := by
  rcases Nat.lt_or_ge j size with h | h
  ·exact h
  ·rw [List.getElem?_eq_none (by rw [hs]; exact h)] at hj; cases hj
 rw [Nat.add_assoc]
 refine hc _ _ ?_
 rw [zEk cells size hs xs k j hjs, hx]
 exact hj
theorem at_kind {kd : IntKind} {w : World} {B n : Nat} {A : Option Addr} {zs : List Int} (h : Reads w B 1 A n (zs.map (.int kd))) {k : Nat} (hk : k < n) :
    ∃ ad z, A = some ad ∧ ad.block < B ∧ zs[k]? = some z ∧ w.cell? (ad.add k) = some (.int kd z) := by
 obtain ⟨ad, u, rfl, hb, hx, hc⟩ := h.at_ hk
 rw [List.getElem?_map] at hx
 cases hz : zs[k]? with
 | none => rw [hz] at hx; cases hx
 | some z =>
  rw [hz] at hx
  injection hx with hx
  exact ⟨ad, z, rfl, hb, rfl, by rw [hc, ← hx]⟩
theorem zDd {kd : IntKind} {w : World} {B n : Nat} {A : Option Addr} {zs : List Int} (h : Reads w B 1 A n (zs.map (.int kd))) {k : Nat} (hk : k < n) :
    ∃ b o z, A = some ⟨b, o, none⟩ ∧ b < B ∧ zs[k]? = some z ∧ w.cell? ⟨b, o + k, none⟩ = some (.int kd z) := by
 obtain ⟨b, o, e, hb, hc⟩ := zPx h (by omega) (by omega)
 have hl : k < zs.length := by have := h.1; simp at this; omega
 exact ⟨b, o, zs[k], e, hb, List.getElem?_eq_getElem hl, hc k _ (by simp [hl])⟩
theorem zCb {α : Type} (l : List α) (k : Nat) (x : α) (h : l[k]? = some x) : l.drop k = x :: l.drop (k + 1) := by
 obtain ⟨hl, rfl⟩ := List.getElem?_eq_some_iff.1 h
 exact List.drop_eq_getElem_cons hl
end
section
open Go.RowKit
structure Stk where
 code : Int
 id : Int
 free : Int
 held : Int
 used : Int
def Stk.val (s : Stk) : Value := .agg #[.int .i64 s.code, .int .i64 s.id, .int .i64 s.free, .int .i64 s.held, .int .i64 s.used]
def Stk.none : Stk := ⟨0, 0, 0, 0, 0⟩
structure Ordr where
 kind : Int
 count : Int
 life : Int
 id : Int
def Ordr.cells (o : Ordr) : List Value := [.int .i64 o.kind, .int .i64 o.count, .int .i64 o.life, .int .i64 o.id]
def Ordr.val (o : Ordr) : Value := .agg #[.int .i64 o.kind, .int .i64 o.count, .int .i64 o.life, .int .i64 o.id]
end
section
open Go.RowKit
structure Hd where
 id : Int
 count : Int
 life : Int
def Hd.cells (h : Hd) : List Value := [.int .i64 h.id, .int .i64 h.count, .int .i64 h.life]
theorem Hd.cells_len (h : Hd) : h.cells.length = 3 := rfl
def zAq : List Hd → Int
 | [] => 0
 | h :: l => h.count + zAq l
structure Shf where
 free : Int
 used : Int
 made : Int
 opn : List Hd
def Shf.new : Shf := ⟨0, 0, 0, []⟩
def Shf.stock (s : Shf) (id code : Int) : Stk := ⟨code, id, s.free, zAq s.opn, s.used⟩
def aged (h : Hd) : Hd := ⟨h.id, h.count, h.life - 1⟩
def zCd : List Hd → Int
 | [] => 0
 | h :: l => (if h.life = 0 then h.count else 0) + zCd l
def stays (l : List Hd) : List Hd := l.filter fun h => !(h.life == 0)
def zEf (s : Shf) (id : Int) (toUsed : Bool) : Shf × Int :=
 if id < 1 ∨ s.made < id then (s, 6)
 else match s.opn.find? (fun h => h.id == id) with
  | none => (s, 10)
  | some h => (⟨if toUsed then s.free else s.free + h.count, if toUsed then s.used + h.count else s.used, s.made, s.opn.filter fun h => !(h.id == id)⟩, 0)
def zFr (o : Ordr) : Bool := decide (1 ≤ o.count) && decide (o.count ≤ 1048576)
def zCw (k : Int) : Bool := k == 1 || k == 2 || k == 3 || k == 6
def Shf.order (s : Shf) (o : Ordr) : Shf × Int × Int :=
 if zCw o.kind && !zFr o then (s, 0, 2)
 else if o.kind = 1 then (if 1048576 < s.free + zAq s.opn + s.used + o.count then (s, 0, 12) else (⟨s.free + o.count, s.used, s.made, s.opn⟩, 0, 0))
 else if o.kind = 2 then (if s.free < o.count then (s, 0, 9) else (⟨s.free - o.count, s.used + o.count, s.made, s.opn⟩, 0, 0))
 else if o.kind = 6 then (if s.used < o.count then (s, 0, 9) else (⟨s.free + o.count, s.used - o.count, s.made, s.opn⟩, 0, 0))
 else if o.kind = 3 then
  (if o.life < 1 ∨ 20 < o.life then (s, 0, 2) else if s.opn.length = 4 then (s, 0, 8) else if s.free < o.count then (s, 0, 9)
   else (⟨s.free - o.count, s.used, s.made + 1, s.opn ++ [⟨s.made + 1, o.count, o.life⟩]⟩, s.made + 1, 0))
 else if o.kind = 4 then ((zEf s o.id true).1, 0, (zEf s o.id true).2)
 else if o.kind = 5 then ((zEf s o.id false).1, 0, (zEf s o.id false).2)
 else if o.kind = 7 then (⟨s.free + zCd (s.opn.map aged), s.used, s.made, stays (s.opn.map aged)⟩, 0, 0)
 else (s, 0, 3)
def Shf.does (s : Shf) (o : Ordr) : Shf × Stk := let r := s.order o; (r.1, r.1.stock r.2.1 r.2.2)
structure Shf.ok (s : Shf) (K : Int) : Prop where
 free0 : 0 ≤ s.free
 used0 : 0 ≤ s.used
 made0 : 0 ≤ s.made
 madeK : s.made ≤ K
 all : s.free + zAq s.opn + s.used ≤ 1048576
 len : s.opn.length ≤ 4
 each : ∀ h ∈ s.opn, 1 ≤ h.id ∧ h.id ≤ s.made ∧ 1 ≤ h.count ∧ h.count ≤ 1048576 ∧ 1 ≤ h.life ∧ h.life ≤ 20
 ids : (s.opn.map (·.id)).Pairwise (· < ·)
theorem zHp (a b : List Hd) : zAq (a ++ b) = zAq a + zAq b := by
 induction a with
 | nil => simp [zAq]
 | cons h l ih => simp [zAq, ih]; omega
theorem zGe {l : List Hd} (h : ∀ x ∈ l, 0 ≤ x.count) : 0 ≤ zAq l := by
 induction l with
 | nil => simp [zAq]
 | cons x l ih => have := h x (by simp); have := ih (fun y hy => h y (by simp [hy])); simp [zAq]; omega
theorem zLn (l : List Hd) : zAq (l.map aged) = zAq l := by
 induction l with
 | nil => rfl
 | cons x l ih => simp [zAq, ih, aged]
theorem zOj (l : List Hd) : zAq (stays l) + zCd l = zAq l := by
 induction l with
 | nil => rfl
 | cons x l ih =>
  by_cases h : x.life = 0
  ·have e : stays (x :: l) = stays l := by simp [stays, h]
   rw [e]; simp [zCd, zAq, h]; omega
  ·have e : stays (x :: l) = x :: stays l := by simp [stays, h]
   rw [e]; simp [zCd, zAq, h]; omega
theorem zJz {l : List Hd} (h : ∀ x ∈ l, 0 ≤ x.count) : 0 ≤ zCd l := by
 induction l with
 | nil => simp [zCd]
 | cons x l ih => have := h x (by simp); have := ih (fun y hy => h y (by simp [hy])); simp [zCd]; split <;> omega
theorem yAg {l : List Hd} {id : Int} {h : Hd} (hp : (l.map (·.id)).Pairwise (· < ·)) (hf : l.find? (fun h => h.id == id) = some h) :
    ∃ a b, l = a ++ h :: b ∧ h.id = id ∧ (l.filter fun h => !(h.id == id)) = a ++ b ∧ (∀ x ∈ a, (x.id == id) = false) := by
 induction l with
 | nil => cases hf
 | cons x l ih =>
  rw [List.map_cons, List.pairwise_cons] at hp
  rw [List.find?_cons] at hf
  cases hx : x.id == id with
  | true =>
   rw [hx] at hf
   injection hf with hf
   subst hf
   have hid : x.id = id := by simpa using hx
   refine ⟨[], l, rfl, hid, ?_, by simp⟩
   rw [List.filter_cons, hx]
   simp only [Bool.not_true, Bool.false_eq_true, if_false, List.nil_append]
   refine List.filter_eq_self.2 fun y hy => ?_
   have := hp.1 y.id (List.mem_map.2 ⟨y, hy, rfl⟩)
   have : (y.id == id) = false := by simp; omega
   rw [this]; rfl
  | false =>
   rw [hx] at hf
   obtain ⟨a, b, e1, e2, e3, e4⟩ := ih hp.2 hf
   refine ⟨x :: a, b, by rw [e1]; rfl, e2, ?_, fun y hy => ?_⟩
   ·rw [List.filter_cons, hx, e3]; rfl
   ·rcases List.mem_cons.1 hy with rfl | hy
    ·exact hx
    ·exact e4 y hy
theorem zNx {s : Shf} {K : Int} (h : s.ok K) (id : Int) (b : Bool) : (zEf s id b).1.ok K := by
 unfold zEf
 split
 ·exact h
 ·cases hf : s.opn.find? (fun h => h.id == id) with
  | none => exact h
  | some x =>
   obtain ⟨a, c, e1, e2, e3, e4⟩ := yAg h.ids hf
   have hx := h.each x (by rw [e1]; simp)
   have hh : zAq s.opn = zAq (a ++ c) + x.count := by rw [e1, zHp, zHp]; simp [zAq]; omega
   have hall := h.all
   have hsub : (a ++ c).Sublist s.opn := by rw [e1]; exact List.Sublist.append (List.Sublist.refl _) (List.sublist_cons_self _ _)
   have h1 := h.free0
   have h2 := h.used0
   dsimp only
   rw [e3]
   refine ⟨?_, ?_, h.made0, h.madeK, ?_, Nat.le_trans hsub.length_le h.len, fun y hy => h.each y (hsub.subset hy), List.Pairwise.sublist (hsub.map _) h.ids⟩
   ·cases b <;> simp <;> omega
   ·cases b <;> simp <;> omega
   ·cases b <;> simp <;> omega
theorem zWa {s : Shf} {K : Int} (h : s.ok K) (o : Ordr) : (s.order o).1.ok (K + 1) := by
 have hK : s.ok (K + 1) := { h with madeK := by have := h.madeK; omega }
 have hh : 0 ≤ zAq s.opn := zGe fun x hx => by have := h.each x hx; omega
 have h1 := h.free0
 have h2 := h.used0
 have h3 := h.all
 have hcb : zCw o.kind = true → zFr o = true → 1 ≤ o.count ∧ o.count ≤ 1048576 := fun _ hc => by simpa [zFr] using hc
 unfold Shf.order
 by_cases c0 : (zCw o.kind && !zFr o) = true
 ·rw [if_pos c0]; exact hK
 rw [if_neg c0]
 have hc : zCw o.kind = true → 1 ≤ o.count ∧ o.count ≤ 1048576 := fun ha => hcb ha (by cases hb : zFr o with | true => rfl | false => rw [ha, hb] at c0; simp at c0)
 by_cases c1 : o.kind = 1
 ·rw [if_pos c1]
  have := hc (by rw [c1]; rfl)
  split
  ·exact hK
  ·exact { hK with free0 := by dsimp only; omega, all := by dsimp only; omega }
 rw [if_neg c1]
 by_cases c2 : o.kind = 2
 ·rw [if_pos c2]
  have := hc (by rw [c2]; rfl)
  split
  ·exact hK
  ·exact { hK with free0 := by dsimp only; omega, used0 := by dsimp only; omega, all := by dsimp only; omega }
 rw [if_neg c2]
 by_cases c6 : o.kind = 6
 ·rw [if_pos c6]
  have := hc (by rw [c6]; rfl)
  split
  ·exact hK
  ·exact { hK with free0 := by dsimp only; omega, used0 := by dsimp only; omega, all := by dsimp only; omega }
 rw [if_neg c6]
 by_cases c3 : o.kind = 3
 ·rw [if_pos c3]
  have hcn := hc (by rw [c3]; rfl)
  split
  ·exact hK
  ·rename_i hl
   split
   ·exact hK
   ·rename_i h4
    split
    ·exact hK
    ·refine ⟨by dsimp only; omega, h2, by have := h.made0; dsimp only; omega, by have := h.madeK; dsimp only; omega, ?_, ?_, ?_, ?_⟩
     ·dsimp only; rw [zHp]; simp [zAq]; omega
     ·have := h.len; dsimp only; simp; omega
     ·intro x hx
      dsimp only at hx ⊢
      rcases List.mem_append.1 hx with hx | hx
      ·have := h.each x hx; omega
      ·rw [List.mem_singleton] at hx
       subst hx
       have := h.made0
       dsimp only
       omega
     ·dsimp only
      rw [List.map_append, List.pairwise_append]
      refine ⟨h.ids, by simp, fun a ha b hb => ?_⟩
      obtain ⟨x, hx, rfl⟩ := List.mem_map.1 ha
      simp at hb
      subst hb
      have := h.each x hx
      omega
 rw [if_neg c3]
 by_cases c4 : o.kind = 4
 ·rw [if_pos c4]; exact { zNx h o.id true with madeK := by have := (zNx h o.id true).madeK; dsimp only; omega }
 rw [if_neg c4]
 by_cases c5 : o.kind = 5
 ·rw [if_pos c5]; exact { zNx h o.id false with madeK := by have := (zNx h o.id false).madeK; dsimp only; omega }
 rw [if_neg c5]
 by_cases c7 : o.kind = 7
 ·rw [if_pos c7]
  have e1 := zOj (s.opn.map aged)
  rw [zLn] at e1
  have e2 : 0 ≤ zCd (s.opn.map aged) := zJz fun x hx => by
   obtain ⟨y, hy, rfl⟩ := List.mem_map.1 hx
   have := h.each y hy
   simp [aged]; omega
  have hsub : (stays (s.opn.map aged)).Sublist (s.opn.map aged) := List.filter_sublist
  refine ⟨by dsimp only; omega, h2, h.made0, by have := h.madeK; dsimp only; omega, by dsimp only; omega, ?_, ?_, ?_⟩
  ·have := hsub.length_le; rw [List.length_map] at this; have := h.len; dsimp only; omega
  ·intro x hx
   dsimp only at hx ⊢
   have hx0 := (List.mem_filter.1 hx).2
   obtain ⟨y, hy, rfl⟩ := List.mem_map.1 (hsub.subset hx)
   have := h.each y hy
   simp [aged] at hx0 ⊢
   omega
  ·dsimp only
   have := List.Pairwise.sublist (hsub.map (·.id)) (by
    rw [List.map_map]
    have e : ((fun x : Hd => x.id) ∘ aged) = fun x : Hd => x.id := rfl
    rw [e]
    exact h.ids)
   exact this
 rw [if_neg c7]
 exact hK
theorem new_ok : Shf.new.ok 0 := ⟨Int.le_refl _, Int.le_refl _, Int.le_refl _, Int.le_refl _, by simp [Shf.new, zAq], by simp [Shf.new], (fun _ h => by cases h), by simp [Shf.new]⟩
end
section
open Go.RowKit
structure Only (D : Nat → Prop) (w w' : World) : Prop where
 os : w'.os = w.os
 tape : w'.tape = w.tape
 output : w'.output = w.output
 size : w.heap.size ≤ w'.heap.size
 block : ∀ k, k < w.heap.size → ¬ D k → w'.heap[k]? = w.heap[k]?
section
variable {D D' : Nat → Prop} {a w w' : World}
theorem Only.refl (D : Nat → Prop) (w : World) : Only D w w := ⟨rfl, rfl, rfl, Nat.le_refl _, fun _ _ _ => rfl⟩
theorem Only.trans (h : Only D a w) (k : Only D' w w') (hD : ∀ x, x < a.heap.size → D' x → D x) : Only D a w' :=
 ⟨k.os.trans h.os, k.tape.trans h.tape, k.output.trans h.output, Nat.le_trans h.size k.size, fun x hx hn => (k.block x (Nat.lt_of_lt_of_le hx h.size) (fun hd => hn (hD x hx hd))).trans (h.block x hx hn)⟩
theorem Only.mono (h : Only D w w') (hD : ∀ x, x < w.heap.size → D x → D' x) : Only D' w w' := ⟨h.os, h.tape, h.output, h.size, fun x hx hn => h.block x hx fun hd => hn (hD x hx hd)⟩
theorem Only.drew (h : Only D a w) : Only D a w.drew := ⟨h.os, h.tape, h.output, h.size, h.block⟩
theorem Only.drewN (h : Only D a w) (n : Nat) : Only D a (w.drewN n) := ⟨h.os, h.tape, h.output, h.size, h.block⟩
theorem Only.alloc (h : Only D a w) (o : Obj) : Only D a (w.alloc o) :=
 ⟨h.os, h.tape, h.output, Nat.le_trans h.size (by simp), fun x hx hn => (Below.heap_alloc w o x (Nat.lt_of_lt_of_le hx h.size)).trans (h.block x hx hn)⟩
theorem Only.setCell (h : Only D a w) {p : Addr} (hp : p.block < a.heap.size → D p.block) (u : Value) : Only D a (w.setCell p u) :=
 ⟨h.os, h.tape, h.output, by simpa [World.setCell] using h.size, fun x hx hn => (Below.heap_setCell w p u x (fun e => hn (e ▸ hp (e ▸ hx)))).trans (h.block x hx hn)⟩
theorem Only.grown (h : Only D a w) {row : Option Nat} (hg : w.grownBy w' row) (hr : ∀ g, row = some g → g < a.heap.size → D g) : Only D a w' :=
 ⟨hg.os.trans h.os, hg.tape.trans h.tape, hg.output.trans h.output, Nat.le_trans h.size hg.size, fun x hx hn => (hg.block x (Nat.lt_of_lt_of_le hx h.size) (fun e => hn (hr x e.symm hx))).trans (h.block x hx hn)⟩
theorem Only.below (h : Only D a w) {B : Nat} (hb : Below B w w') (hB : ∀ x, x < a.heap.size → B ≤ x → D x) : Only D a w' :=
 ⟨hb.os.trans h.os, hb.tape.trans h.tape, hb.output.trans h.output, Nat.le_trans h.size hb.size, fun x hx hn => (hb.block x (Nat.not_le.1 fun e => hn (hB x hx e))).trans (h.block x hx hn)⟩
theorem Only.calm (h : Only D a w) (hb : Below w.heap.size w w') : Only D a w' := h.below hb fun x hx hB => absurd h.size (by omega)
theorem Only.of_below {B : Nat} (hb : Below B w w') (hB : ∀ x, x < w.heap.size → B ≤ x → D x) : Only D w w' := (Only.refl D w).below hb hB
theorem Only.to_below {B : Nat} (h : Only D w w') (hD : ∀ x, x < B → x < w.heap.size → ¬ D x) (hB : B ≤ w.heap.size) : Below B w w' := ⟨h.os, h.tape, h.output, h.size, fun x hx => h.block x (by omega) (hD x hx (by omega))⟩
theorem Below.only {B : Nat} (hb : Below B a w) (h : Only D w w') (hD : ∀ x, x < B → ¬ D x) (hB : B ≤ w.heap.size) : Below B a w' := hb.trans (h.to_below (fun x hx _ => hD x hx) hB)
theorem Blk.only {g : Nat} {t : TypeId} {cs : Array Value} (h : Blk w g t cs) (ho : Only D w w') (hn : ¬ D g) : Blk w' g t cs := (ho.block g h.lt hn).trans h
theorem zAk {base size n : Nat} {e : TypeId} {v : Value} {xs : List Value} (h : w.ownsRow base e size v n xs) (ho : Only D w w') (hn : ∀ g, v.ownBlock = some g → ¬ D g) : w'.ownsRow base e size v n xs := by
 obtain ⟨h1, h2⟩ := h
 refine ⟨h1, ?_⟩
 rcases h2 with h2 | ⟨g, cap, cur, hv, hg, hh, r⟩
 ·exact .inl h2
 ·refine .inr ⟨g, cap, cur, hv, hg, (ho.block g (Blk.lt (t := e) (cs := cur) hh) (hn g (by rw [hv]; rfl))).trans hh, r⟩
end
def Has (cs : Array Value) (o : Nat) (l : List Value) : Prop := ∀ j u, l[j]? = some u → cs[o + j]? = some u
def putAt (cs : Array Value) (o : Nat) : List Value → Array Value
 | [] => cs
 | v :: l => putAt (cs.setIfInBounds o v) (o + 1) l
theorem yAd (l : List Value) : ∀ (cs : Array Value) (o : Nat), (putAt cs o l).size = cs.size := by
 induction l with
 | nil => intro cs o; rfl
 | cons v l ih => intro cs o; rw [putAt, ih]; simp
theorem zGc (l : List Value) : ∀ (cs : Array Value) (o i : Nat), (putAt cs o l)[i]? = if o ≤ i ∧ i < o + l.length ∧ i < cs.size then l[i - o]? else cs[i]? := by
 induction l with
 | nil => intro cs o i; rw [putAt, if_neg (by simp; omega)]
 | cons v l ih =>
  intro cs o i
  rw [putAt, ih, Array.size_setIfInBounds, Array.getElem?_setIfInBounds, List.length_cons]
  by_cases h0 : i = o
  ·subst h0
   rw [if_neg (by omega)]
   by_cases hs : i < cs.size
   ·rw [if_pos rfl, if_pos hs, if_pos (by omega)]; simp
   ·rw [if_pos rfl, if_neg hs, if_neg (by omega)]; simp; omega
  ·have e0 : (if o = i then if o < cs.size then some v else none else cs[i]?) = cs[i]? := if_neg (fun e => h0 e.symm)
   rw [e0]
   by_cases h1 : o + 1 ≤ i ∧ i < o + 1 + l.length ∧ i < cs.size
   ·rw [if_pos h1, if_pos (by omega), show i - o = (i - (o + 1)) + 1 by omega]; rfl
   ·rw [if_neg h1, if_neg (by omega)]
theorem Has.putAt (cs : Array Value) (o : Nat) (l : List Value) (h : o + l.length ≤ cs.size) : Has (putAt cs o l) o l := by
 intro j u hj
 have hl := (List.getElem?_eq_some_iff.1 hj).1
 rw [zGc, if_pos (by omega), Nat.add_sub_cancel_left]
 exact hj
theorem Has.le {cs : Array Value} {o : Nat} {l : List Value} (h : Has cs o l) (hl : 0 < l.length) : o + l.length ≤ cs.size := by
 have := h (l.length - 1) _ (List.getElem?_eq_getElem (by omega))
 have := (Array.getElem?_eq_some_iff.1 this).1
 omega
theorem zKe {a b : Array Value} (h : ∀ i : Nat, a[i]? = b[i]?) : a = b := by
 rw [← Array.toList_inj]
 apply List.ext_getElem?
 intro i
 simpa using h i
theorem zGb (cs : Array Value) (o : Nat) (l l' : List Value) (h : l.length = l'.length) : putAt (putAt cs o l) o l' = putAt cs o l' := by
 apply zKe
 intro i
 rw [zGc, zGc, zGc, yAd]
 by_cases h1 : o ≤ i ∧ i < o + l'.length ∧ i < cs.size
 ·rw [if_pos h1, if_pos h1]
 ·rw [if_neg h1, if_neg (by omega), if_neg h1]
theorem zMf (cs : Array Value) (o : Nat) (l : List Value) (h : Has cs o l) : putAt cs o l = cs := by
 apply zKe
 intro i
 rw [zGc]
 split
 ·rename_i h1
  have := h (i - o) _ (List.getElem?_eq_getElem (by omega))
  rw [show o + (i - o) = i by omega] at this
  rw [this, List.getElem?_eq_getElem (by omega)]
 ·rfl
theorem yBw (cs : Array Value) (o j : Nat) (l : List Value) (hl : Has cs o l) (hj : j < l.length) (u : Value) : cs.setIfInBounds (o + j) u = putAt cs o (l.set j u) := by
 apply zKe
 intro i
 have hle := hl.le (by omega)
 rw [zGc, Array.getElem?_setIfInBounds, List.length_set]
 by_cases h0 : o + j = i
 ·subst h0
  rw [if_pos rfl, if_pos (by omega), if_pos (by omega), Nat.add_sub_cancel_left, List.getElem?_set_self hj]
 ·rw [if_neg h0]
  split
  ·rename_i h1
   rw [List.getElem?_set_ne (by omega)]
   have := hl (i - o) _ (List.getElem?_eq_getElem (by omega))
   rw [show o + (i - o) = i by omega] at this
   rw [this, List.getElem?_eq_getElem (by omega)]
  ·rfl
theorem Blk.put_ {w : World} {g : Nat} {t : TypeId} {cs : Array Value} (h : Blk w g t cs) {o j : Nat} {l : List Value} (hl : Has cs o l) (hj : j < l.length) (u : Value) : Blk (w.setCell ⟨g, o + j, none⟩ u) g t (putAt cs o (l.set j u)) := by
 have := h.set_ (o + j) u
 rwa [yBw cs o j l hl hj u] at this
theorem Blk.at_ {w : World} {g : Nat} {t : TypeId} {cs : Array Value} (h : Blk w g t cs) {o : Nat} {l : List Value} (hl : Has cs o l) (j : Nat) {u : Value} (hj : l[j]? = some u) : w.cell? ⟨g, o + j, none⟩ = some u := (h.cell (o + j)).trans (hl j u hj)
end
section
open Go.RowKit
theorem zAi {w w' : World} {base size n : Nat} {e : TypeId} {v : Value} {xs : List Value} (h : w.ownsRow base e size v n xs) (hb : Below w.heap.size w w') : w'.ownsRow base e size v n xs := by
 refine World.ownsRow.kept h (only_of_below' hb) ?_
 cases v.ownBlock with
 | none => exact .inl rfl
 | some g => exact .inr (by simp)
where only_of_below' {a w : World} (h : Below a.heap.size a w) : a.grownBy w none := ⟨h.os, h.tape, h.output, h.size, fun i hi _ => h.block i hi⟩
theorem zBr {w : World} {base base' size n : Nat} {e : TypeId} {v : Value} {xs : List Value} (h : w.ownsRow base e size v n xs) (hb : base' ≤ base) : w.ownsRow base' e size v n xs := by
 refine ⟨h.1, ?_⟩
 rcases h.2 with h2 | ⟨g, cap, cur, h2, h3, h4⟩
 ·exact .inl h2
 ·exact .inr ⟨g, cap, cur, h2, Nat.le_trans hb h3, h4⟩
theorem zCx {w : World} {base size n m c : Nat} {A : Option Addr} {e : TypeId} {xs : List Value} (h : w.ownsRow base e size (.slice A m c) n xs) : m = n ∧ n ≤ c ∧ c ≤ maxLen := by
 rcases h.2 with ⟨e1, e2⟩ | ⟨g, cap, cur, e1, _, _, h1, h2, _⟩
 ·injection e1 with _ e3 e4; subst e3 e4; exact ⟨by omega, by omega, Nat.zero_le _⟩
 ·injection e1 with _ e3 e4; subst e3 e4; exact ⟨rfl, h1, h2⟩
theorem zHy {α : Type} {cells : α → List Value} {size : Nat} (hs : ∀ x, (cells x).length = size) (l : List α) : (l.flatMap cells).length = l.length * size := by
 induction l with
 | nil => simp
 | cons x l ih => simp [List.flatMap_cons, hs, ih, Nat.succ_mul, Nat.add_comm]
theorem zNa {α : Type} {cells : α → List Value} {size : Nat} (hs : ∀ x, (cells x).length = size) : ∀ (l : List α) (k : Nat), (l.flatMap cells).take (k * size) = (l.take k).flatMap cells
 | [], k => by simp
 | x :: l, 0 => by simp
 | x :: l, k + 1 => by
  rw [List.flatMap_cons, List.take_succ_cons, List.flatMap_cons, ← zNa hs l k, Nat.succ_mul, Nat.add_comm, ← hs x, List.take_length_add_append]
theorem zNl {α : Type} {cells : α → List Value} {size : Nat} (hs : ∀ x, (cells x).length = size) : ∀ (l : List α) (k : Nat), (l.flatMap cells).drop (k * size) = (l.drop k).flatMap cells
 | [], k => by simp
 | x :: l, 0 => by simp
 | x :: l, k + 1 => by
  rw [List.flatMap_cons, List.drop_succ_cons, ← zNl hs l k, Nat.succ_mul, Nat.add_comm, ← hs x, List.drop_length_add_append]
theorem own_take {w : World} {base g n c size k : Nat} {e : TypeId} {xs : List Value} (h : w.ownsRow base e size (.slice (some ⟨g, 0, none⟩) n c) n xs) (hk : k ≤ n) : w.ownsRow base e size (.slice (some ⟨g, 0, none⟩) k c) k (xs.take (k * size)) := by
 have hks : k * size ≤ n * size := Nat.mul_le_mul_right _ hk
 refine ⟨by rw [List.length_take, h.1]; omega, ?_⟩
 rcases h.2 with ⟨h1, _⟩ | ⟨g', cap, cur, h1, hb, hh, h2, h3, h4, h5⟩
 ·simp at h1
 ·injection h1 with e1 e2 e3
  injection e1 with e1
  injection e1 with e1
  subst e1 e3
  exact .inr ⟨g, c, cur, rfl, hb, hh, by omega, h3, h4, by rw [← h5, List.take_take]; congr 1; omega⟩
theorem zEz {w : World} {base g n c size : Nat} {e : TypeId} {xs : List Value} (h : w.ownsRow base e size (.slice (some ⟨g, 0, none⟩) n c) n xs) (j : Nat) {u : Value} (hj : xs[j]? = some u) : w.cell? ⟨g, j, none⟩ = some u := by
 have := (h.cells (g := g) rfl) j u hj
 have e : (⟨g, 0, none⟩ : Addr).add j = ⟨g, j, none⟩ := by unfold Addr.add; split <;> simp_all
 rwa [e] at this
theorem zAg {G : Nat} {a w : World} (h : Only (fun k => k = G) a w) (j : Nat) (u : Value) : Only (fun k => k = G) a (w.setCell ⟨G, j, none⟩ u) := h.setCell (fun _ => rfl) u
theorem zLx {w : World} {base g n cap size : Nat} {e : TypeId} {xs : List Value} (h : w.ownsRow base e size (.slice (some ⟨g, 0, none⟩) n cap) n xs) (j : Nat) (hj : j < cap * size) : (w.cell? ⟨g, j, none⟩).isSome = true ∧ w.frozen? ⟨g, j, none⟩ = false := by
 rcases h.2 with ⟨h1, _⟩ | ⟨g', cap', cur, h1, _, hb, _, _, hs, _⟩
 ·simp at h1
 ·injection h1 with e1 e2 e3
  injection e1 with e1
  injection e1 with e1
  subst e1 e3
  have hb' : Blk w g e cur := hb
  exact ⟨by rw [hb'.cell, Array.getElem?_eq_getElem (by omega)]; rfl, hb'.frozen j⟩
theorem zGg {α : Type} {cells : α → List Value} {size : Nat} (hs : ∀ x, (cells x).length = size) : ∀ (l : List α) (k j : Nat) (x y : α) (u : Value), l[k]? = some x → j < size → (cells x).set j u = cells y → (l.flatMap cells).set (k * size + j) u = (l.set k y).flatMap cells
 | [], k, j, x, y, u, hx, _, _ => by simp at hx
 | z :: l, 0, j, x, y, u, hx, hj, hc => by
  simp at hx
  subst hx
  rw [List.flatMap_cons, List.set_cons_zero, List.flatMap_cons, Nat.zero_mul, Nat.zero_add, List.set_append_left _ _ (by rw [hs]; exact hj), hc]
 | z :: l, k + 1, j, x, y, u, hx, hj, hc => by
  simp at hx
  rw [List.flatMap_cons, List.set_cons_succ, List.flatMap_cons, List.set_append_right _ _ (by rw [hs, Nat.succ_mul]; omega), hs, show (k + 1) * size + j - size = k * size + j by rw [Nat.succ_mul]; omega, zGg hs l k j x y u hx hj hc]
theorem zDe {w w' : World} {base base' e e' size size' n n' : Nat} {v v' : Value} {xs xs' : List Value} (h : w.ownsRow base e size v n xs) (h' : w.ownsRow base' e' size' v' n' xs') (he : e ≠ e') (hg : w.grownBy w' v'.ownBlock) : w'.ownsRow base e size v n xs :=
 zAk h ((Only.refl _ _).grown hg (D := fun k => v'.ownBlock = some k) (fun g hg _ => hg)) fun g hg hd => by
  rcases zDs h h' he with e1 | e1
  ·rw [e1] at hg; cases hg
  ·exact e1 (by rw [hg, hd])
end
section
open Go.RowKit
theorem zEm {t : TypeId} {z : Value} {s b : Nat} (h : (Tryz.prog.info? t).map (fun i => (i.zero, i.size, i.bytes)) = some (some z, s, b)) : ∃ i, Tryz.prog.info? t = some i ∧ i.zero = some z ∧ i.size = s ∧ i.bytes = b := by
 cases hi : Tryz.prog.info? t with
 | none => rw [hi] at h; simp at h
 | some i => rw [hi] at h; simp at h; exact ⟨i, rfl, h.1, h.2.1, h.2.2⟩
theorem zGq {t : TypeId} {cs : List Value} {s b : Nat} (h : (Tryz.prog.info? t).map (fun i => (i.zero.map fun z => z.cells.toList, i.size, i.bytes)) = some (some cs, s, b)) : ∃ i, Tryz.prog.info? t = some i ∧ ∃ z, i.zero = some z ∧ z.cells.toList = cs ∧ i.size = s ∧ i.bytes = b := by
 cases hi : Tryz.prog.info? t with
 | none => rw [hi] at h; simp at h
 | some i =>
  rw [hi] at h
  simp only [Option.map_some, Option.some.injEq, Prod.mk.injEq] at h
  obtain ⟨h1, h2, h3⟩ := h
  cases hz : i.zero with
  | none => rw [hz] at h1; cases h1
  | some z => rw [hz] at h1; simp at h1; exact ⟨i, rfl, z, hz, h1, h2, h3⟩
end
section
open Go.RowKit
def zBc (n : Nat) : Array Value := (List.replicate n (Value.slice none 0 0)).toArray
theorem zUg (z : Array Value) (N i : Nat) (hz : 0 < z.size) (h : i < N) : (madeCells z N)[i]? = z[i % z.size]? := by
 unfold madeCells
 rw [Array.getElem?_map, Array.getElem?_range, if_pos h]
 have := Nat.mod_lt i hz
 simp [this]
theorem zPh (n : Nat) (z : Array Value) (hc : z.toList = [Value.slice none 0 0]) : madeCells z n = zBc n := by
 unfold zBc
 have hs : z.size = 1 := by have := congrArg List.length hc; simpa using this
 apply zKe
 intro i
 rcases Nat.lt_or_ge i n with h | h
 ·have e : z[0]? = z.toList[0]? := by simp
  rw [zUg z _ i (by omega) h, hs, Nat.mod_one, e, hc]
  simp [h]
 ·rw [Array.getElem?_eq_none (by rw [size_madeCells]; exact h), Array.getElem?_eq_none (by simpa using h)]
end
end Go.Proofs.YtbolcebmbpepdaaGreatDoor
