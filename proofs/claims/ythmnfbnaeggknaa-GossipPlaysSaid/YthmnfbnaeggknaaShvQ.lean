/- The plain law of gossip, turn for turn. Conditions: none beyond what each theorem states. -/
import Derived.Test.YthmnfbnaeggknaaShvP
namespace Go.Proofs.Ythmnfbnaeggknaa
open Go.RowKit
set_option linter.unusedVariables false

/-- the places of a branch hold the entries of their keys -/
def GoodS (T : Int) (q : List Slot) : Prop := ∀ (p : Nat) (s : Slot), q[p]? = some s → s.2 = true → s.1.key = ((p % 8 : Nat) : Int) ∧ EntOk T s.1
theorem GoodS.mono {T T' : Int} {q : List Slot} (h : GoodS T q) (hT : T ≤ T') : GoodS T' q := fun p s hs h2 => ⟨(h p s hs h2).1, (h p s hs h2).2.mono hT⟩
theorem GoodS.row {T : Int} {q : List Slot} (h : GoodS T q) (l : Nat) : Keyed T 0 (rowQ q l) := fun i s hs h2 => by
  have hi : i < 8 := by
    have h1 := (List.getElem?_eq_some_iff.1 hs).1
    unfold rowQ at h1
    have := List.length_take_le 8 (q.drop (l * 8))
    omega
  rw [rowQ_get q l i hi] at hs
  have := h _ s hs h2
  rw [show (l * 8 + i) % 8 = 0 + i by omega] at this
  exact this
theorem learn_upd (q : List Slot) (l : Nat) (e : Ent) (hk : 0 ≤ e.key ∧ e.key < 8) : rowQ (learnS q l e) l = upd (rowQ q l) e.key.toNat e ∧ (∀ l', l' ≠ l → rowQ (learnS q l e) l' = rowQ q l') ∧ (learnS q l e).length = q.length := by
  have hk8 : e.key.toNat < 8 := by omega
  obtain ⟨k, hkk⟩ : ∃ k, e.key.toNat = k := ⟨_, rfl⟩
  rw [hkk] at hk8 ⊢
  have hset : ∀ v : Slot, rowQ (q.set (l * 8 + k) v) l = (rowQ q l).set k v := fun v => by
    unfold rowQ
    rw [List.drop_set, if_neg (by omega), show l * 8 + k - l * 8 = k by omega, List.take_set]
  have hne : ∀ (v : Slot) l', l' ≠ l → rowQ (q.set (l * 8 + k) v) l' = rowQ q l' := fun v l' hl => by
    apply List.ext_getElem?
    intro i
    rcases Nat.lt_or_ge i 8 with h8 | h8
    · rw [rowQ_get _ _ _ h8, rowQ_get _ _ _ h8, List.getElem?_set_ne (by omega)]
    · unfold rowQ
      rw [List.getElem?_eq_none (by have := List.length_take_le 8 ((q.set (l * 8 + k) v).drop (l' * 8)); omega), List.getElem?_eq_none (by have := List.length_take_le 8 (q.drop (l' * 8)); omega)]
  unfold learnS upd
  rw [hkk, rowQ_get q l k hk8]
  cases q[l * 8 + k]? with
  | none => exact ⟨rfl, fun _ _ => rfl, rfl⟩
  | some s =>
    obtain ⟨x, b⟩ := s
    dsimp only
    split
    · exact ⟨hset _, fun l' hl => hne _ l' hl, by simp⟩
    · exact ⟨rfl, fun _ _ => rfl, rfl⟩
def learnL (q : List Slot) (l : Nat) (es : List Ent) : List Slot := es.foldl (fun q e => learnS q l e) q
theorem learnL_row (l : Nat) : ∀ (es : List Ent) (q : List Slot), (∀ e ∈ es, 0 ≤ e.key ∧ e.key < 8) → rowQ (learnL q l es) l = es.foldl (fun r e => upd r e.key.toNat e) (rowQ q l) ∧ (∀ l', l' ≠ l → rowQ (learnL q l es) l' = rowQ q l') ∧ (learnL q l es).length = q.length
  | [], q, _ => ⟨rfl, fun _ _ => rfl, rfl⟩
  | e :: es, q, h => by
    have h1 := learn_upd q l e (h e (by simp))
    have h2 := learnL_row l es (learnS q l e) (fun x hx => h x (by simp [hx]))
    unfold learnL at h2 ⊢
    simp only [List.foldl_cons]
    rw [← h1.1]
    exact ⟨h2.1, fun l' hl => (h2.2.1 l' hl).trans (h1.2.1 l' hl), by rw [h2.2.2, h1.2.2]⟩
theorem good_of_rows {T : Int} {q : List Slot} (n : Nat) (hl : q.length = n * 8) (h : ∀ l, l < n → Keyed T 0 (rowQ q l)) : GoodS T q := fun p s hs h2 => by
  have hp := (List.getElem?_eq_some_iff.1 hs).1
  have e : p = p / 8 * 8 + p % 8 := by omega
  have h8 : p % 8 < 8 := Nat.mod_lt _ (by omega)
  rw [e, ← rowQ_get q (p / 8) (p % 8) h8] at hs
  have := h (p / 8) (by omega) (p % 8) s hs h2
  rw [Nat.zero_add] at this
  exact this
/-- what the program holds of it -/
def rowsQ (n : Nat) (q : List Slot) : List (List Ent) := (List.range n).map fun l => lsS (rowQ q l)
theorem rowsQ_get (n : Nat) (q : List Slot) (l : Nat) (h : l < n) : (rowsQ n q)[l]? = some (lsS (rowQ q l)) := by simp [rowsQ, h]
theorem rowsQ_set (n : Nat) (q q' : List Slot) (l : Nat) (h : ∀ l', l' ≠ l → rowQ q' l' = rowQ q l') (hl : l < n) : rowsQ n q' = (rowsQ n q).set l (lsS (rowQ q' l)) := by
  apply List.ext_getElem?
  intro i
  rw [List.getElem?_set]
  by_cases hi : i < n
  · rw [rowsQ_get n q' i hi]
    split
    · rename_i h1; subst h1; rw [if_pos (by simp [rowsQ]; exact hi)]
    · rename_i h1; rw [rowsQ_get n q i hi, h i (fun e => h1 e.symm)]
  · rw [List.getElem?_eq_none (by simp [rowsQ]; omega)]
    split
    · omega
    · rw [List.getElem?_eq_none (by simp [rowsQ]; omega)]
def plQ (n : Nat) (Q : List (List Slot)) : List (List (List Ent)) := Q.map (rowsQ n)
theorem rowP_plQ {n : Nat} {Q : List (List Slot)} {j l : Nat} {q : List Slot} (hq : Q[j]? = some q) (hl : l < n) : rowP (plQ n Q) j l = lsS (rowQ q l) := by
  unfold rowP plQ
  rw [List.getElem?_map, hq]
  simp [rowsQ_get n q l hl]
theorem setP_plQ {n : Nat} {Q : List (List Slot)} {j l : Nat} {q q' : List Slot} (hq : Q[j]? = some q) (hl : l < n) (h : ∀ l', l' ≠ l → rowQ q' l' = rowQ q l') : plQ n (Q.set j q') = setP (plQ n Q) j l (lsS (rowQ q' l)) := by
  unfold setP plQ
  rw [List.map_set, rowsQ_set n q q' l h hl, List.getElem?_map, hq]
  rfl
structure Goods (T : Int) (m n : Nat) (Q : List (List Slot)) : Prop where
  len : Q.length = m
  each : ∀ q ∈ Q, q.length = n * 8 ∧ GoodS T q
theorem Goods.mono {T T' : Int} {m n : Nat} {Q : List (List Slot)} (h : Goods T m n Q) (hT : T ≤ T') : Goods T' m n Q := ⟨h.len, fun q hq => ⟨(h.each q hq).1, (h.each q hq).2.mono hT⟩⟩
theorem Goods.set {T : Int} {m n : Nat} {Q : List (List Slot)} (h : Goods T m n Q) (j : Nat) {q : List Slot} (hl : q.length = n * 8) (hg : GoodS T q) : Goods T m n (Q.set j q) :=
  ⟨by simp [h.len], fun x hx => by
    rcases List.mem_or_eq_of_mem_set hx with h1 | h1
    · exact h.each x h1
    · rw [h1]; exact ⟨hl, hg⟩⟩
def tellQ (who dst : Nat) : List Nat → Nat → List (List Slot) → List (List Slot)
  | [], _, Q => Q
  | l :: ls, i, Q => tellQ who dst ls (i + 1) (if l.testBit who && l.testBit dst then Q.set dst (learnL (Q[dst]?.getD []) i (lsS (rowQ (Q[who]?.getD []) i))) else Q)
/-- one row is learnt from another -/
theorem learn_row {T : Int} {m n : Nat} {Q : List (List Slot)} (h : Goods T m n Q) (hT : T ≤ 1048576) {dst l : Nat} {q : List Slot} {es : List Ent} (hq : Q[dst]? = some q) (hl : l < n) (hes : mayP es = true) (hee : ∀ e ∈ es, e.key < 8 ∧ EntOk T e) :
    Goods T m n (Q.set dst (learnL q l es)) ∧ plQ n (Q.set dst (learnL q l es)) = setP (plQ n Q) dst l (mergeP (rowP (plQ n Q) dst l) es).1 := by
  have hqm := h.each q (List.mem_of_getElem? hq)
  have hf := mayP_facts hes
  obtain ⟨h1, h2, h3⟩ := learnL_row l es q (fun e he => ⟨(hf.2.1 e he).1, (hee e he).1⟩)
  have hrl := rowQ_len q l n hqm.1 hl
  obtain ⟨m1, m2, m3⟩ := merge_ls (hqm.2.row l) hT hrl hes hee
  rw [← h1] at m1 m2 m3
  refine ⟨h.set dst (by rw [h3, hqm.1]) (good_of_rows n (by rw [h3, hqm.1]) fun l' hl' => ?_), ?_⟩
  · by_cases e : l' = l
    · rw [e]; exact m2
    · rw [h2 l' e]; exact hqm.2.row l'
  · rw [setP_plQ hq hl h2, rowP_plQ hq hl, m1]
theorem tell_pl {T : Int} {m n : Nat} (hT : T ≤ 1048576) (who dst : Nat) (hw : who < m) (hd : dst < m) : ∀ (ls : List Nat) (i : Nat) (Q : List (List Slot)), Goods T m n Q → i + ls.length ≤ n → tellP who dst ls i (plQ n Q) = plQ n (tellQ who dst ls i Q) ∧ Goods T m n (tellQ who dst ls i Q)
  | [], i, Q, h, _ => ⟨rfl, h⟩
  | l :: ls, i, Q, h, hi => by
    simp only [List.length_cons] at hi
    unfold tellP tellQ
    obtain ⟨qd, hqd⟩ : ∃ q, Q[dst]? = some q := ⟨_, List.getElem?_eq_getElem (by rw [h.len]; exact hd)⟩
    obtain ⟨qw, hqw⟩ : ∃ q, Q[who]? = some q := ⟨_, List.getElem?_eq_getElem (by rw [h.len]; exact hw)⟩
    have hgw := h.each qw (List.mem_of_getElem? hqw)
    have hK := hgw.2.row i
    have h8 := rowQ_len qw i n hgw.1 (by omega)
    split
    · have hr := learn_row h hT hqd (show i < n by omega) (es := lsS (rowQ qw i)) (may_ls hK hT (by omega)) (fun e he => ⟨by have := (lsS_mem hK he).1.2; omega, (lsS_mem hK he).2⟩)
      rw [hqd, hqw]
      simp only [Option.getD_some]
      rw [rowP_plQ hqw (show i < n by omega), ← hr.2]
      exact tell_pl hT who dst hw hd ls (i + 1) _ hr.1 (by omega)
    · exact tell_pl hT who dst hw hd ls (i + 1) Q h (by omega)
/-- a row is written to -/
theorem put_row {T : Int} {m n : Nat} {Q : List (List Slot)} (h : Goods T m n Q) (hT : T ≤ 1000000) (hT0 : 0 ≤ T) {who l key : Nat} {value : Int} {gone : Bool} {q : List Slot} (hq : Q[who]? = some q) (hm : m ≤ 8) (hl : l < n) (hk : key < 8) (hv : 0 ≤ value ∧ value ≤ 255) (hg : gone = true → value = 0) :
    Goods (T + 1) m n (Q.set who (setS q l who key value gone)) ∧ plQ n (Q.set who (setS q l who key value gone)) = setP (plQ n Q) who l (putE (rowP (plQ n Q) who l) who key value gone) := by
  have hwm : who < m := by rw [← h.len]; exact (List.getElem?_eq_some_iff.1 hq).1
  have hqm := h.each q (List.mem_of_getElem? hq)
  have hK := hqm.2.row l
  have h8 := rowQ_len q l n hqm.1 hl
  have htl := time_le (T := T) (rowQ q l) 0 (fun s hs h2 => by obtain ⟨i, hi⟩ := List.mem_iff_getElem?.1 hs; exact (hK i s hi h2).2.time.2) hT0
  obtain ⟨e, he⟩ : ∃ e : Ent, e = ⟨key, value, timeS (rowQ q l) 0 + 1, who, gone⟩ := ⟨_, rfl⟩
  have heok : EntOk (T + 1) e := by
    rw [he]
    exact ⟨hv, by dsimp only; omega, by dsimp only; omega, hg⟩
  have hek : e.key = key := by rw [he]
  have hs : q[l * 8 + key]? = some (q[l * 8 + key]'(by omega)) := List.getElem?_eq_getElem _
  generalize q[l * 8 + key]'(by omega) = s at hs
  obtain ⟨x, b⟩ := s
  have hset : setS q l who key value gone = learnL q l [e] := by
    unfold learnL setS learnS
    simp only [List.foldl_cons, List.foldl_nil, Int.toNat_natCast, hek, hs]
    rw [← he]
    have : (!b || newerP e x) = true := by
      cases b with
      | false => rfl
      | true =>
        have hrs : (rowQ q l)[key]? = some (x, true) := by rw [rowQ_get q l key hk]; exact hs
        have h1 := htl.2.2 (x, true) (List.mem_of_getElem? hrs) rfl
        have h2 : e.time = timeS (rowQ q l) 0 + 1 := by rw [he]
        dsimp only at h1
        rw [newerP_eq, if_pos (by omega)]
        simp
        omega
    rw [this, if_pos rfl]
  have hmay : mayP [e] = true := by
    have h1 := heok.one (by omega) (by omega)
    unfold mayP
    rw [entsGo_of [e] none (fun x hx => by rw [List.mem_singleton] at hx; rw [hx]; exact h1) (List.pairwise_singleton _ _) (fun q hq => by cases hq)]
    rfl
  have hr := learn_row (h.mono (T' := T + 1) (by omega)) (by omega) hq hl hmay (fun z hz => by rw [List.mem_singleton] at hz; rw [hz]; exact ⟨by omega, heok⟩)
  rw [hset]
  refine ⟨hr.1, ?_⟩
  rw [hr.2, rowP_plQ hq hl]
  unfold putE
  rw [time_ls, ← he]
/-- a turn, by places -/
def turnQ (m : Nat) (labs : List Nat) (t : TurnI) (Q : List (List Slot)) : Int × List (List Slot) :=
  if t.kind < 1 ∨ 3 < t.kind then (3, Q)
  else if ¬ (0 ≤ t.who ∧ t.who < m) then (2, Q)
  else if t.kind = 3 then (if ¬ (0 ≤ t.dst ∧ t.dst < m) then (2, Q) else (0, tellQ t.who.toNat t.dst.toNat labs 0 Q))
  else if t.label < 0 ∨ (labs.length : Int) ≤ t.label ∨ t.key < 0 ∨ 8 ≤ t.key ∨ (t.kind = 1 ∧ (t.value < 0 ∨ 255 < t.value)) then (2, Q)
  else if ((labs[t.label.toNat]?).getD 0).testBit t.who.toNat = false then (11, Q)
  else if t.kind = 1 then (0, Q.set t.who.toNat (setS (Q[t.who.toNat]?.getD []) t.label.toNat t.who t.key t.value false))
  else if liveQ (Q[t.who.toNat]?.getD []) (t.label.toNat * 8 + t.key.toNat) = false then (6, Q)
  else (0, Q.set t.who.toNat (setS (Q[t.who.toNat]?.getD []) t.label.toNat t.who t.key 0 true))
where liveQ (q : List Slot) (p : Nat) : Bool := (slotF q[p]?).2
theorem turn_pl {T : Int} {m n : Nat} {Q : List (List Slot)} (h : Goods T m n Q) (hT : T ≤ 1000000) (hT0 : 0 ≤ T) (hm : m ≤ 8) (labs : List Nat) (hl : labs.length = n) (t : TurnI) :
    turnP m labs t (plQ n Q) = ((turnQ m labs t Q).1, plQ n (turnQ m labs t Q).2) ∧ Goods (T + 1) m n (turnQ m labs t Q).2 := by
  have h1 : Goods (T + 1) m n Q := h.mono (by omega)
  unfold turnP turnQ
  split
  · exact ⟨rfl, h1⟩
  split
  · exact ⟨rfl, h1⟩
  rename_i hw
  have hw : 0 ≤ t.who ∧ t.who < m := by simpa using hw
  split
  · split
    · exact ⟨rfl, h1⟩
    · rename_i hd
      have hd : 0 ≤ t.dst ∧ t.dst < m := by simpa using hd
      have := tell_pl (T := T) (by omega) t.who.toNat t.dst.toNat (by omega) (by omega) labs 0 Q h (by omega)
      exact ⟨by rw [this.1], this.2.mono (by omega)⟩
  split
  · exact ⟨rfl, h1⟩
  rename_i hc
  split
  · exact ⟨rfl, h1⟩
  obtain ⟨q, hq⟩ : ∃ q, Q[t.who.toNat]? = some q := ⟨_, List.getElem?_eq_getElem (by rw [h.len]; omega)⟩
  have hqq : Q[t.who.toNat]?.getD [] = q := by rw [hq]; rfl
  have ew : ((t.who.toNat : Nat) : Int) = t.who := by omega
  have ek : ((t.key.toNat : Nat) : Int) = t.key := by omega
  have hq8 := h.each q (List.mem_of_getElem? hq)
  rw [hqq]
  split
  · have := put_row h hT hT0 (key := t.key.toNat) (value := t.value) (gone := false) hq hm (show t.label.toNat < n by omega) (by omega) (by omega) (by simp)
    rw [ew, ek] at this
    exact ⟨by rw [this.2], this.1⟩
  · have hf := find_ls (rowQ q t.label.toNat) 0 t.key.toNat (hq8.2.row _) (by rw [rowQ_len q _ n hq8.1 (by omega)]; omega)
    rw [Nat.zero_add, ek, rowQ_get q _ _ (by omega)] at hf
    rw [rowP_plQ hq (show t.label.toNat < n by omega), hf]
    show (if (slotF q[t.label.toNat * 8 + t.key.toNat]?).2 = false then _ else _) = _ ∧ _
    unfold turnQ.liveQ
    split
    · exact ⟨rfl, h1⟩
    · have := put_row h hT hT0 (key := t.key.toNat) (value := 0) (gone := true) hq hm (show t.label.toNat < n by omega) (by omega) (by omega) (by simp)
      rw [ew, ek, rowP_plQ hq (show t.label.toNat < n by omega)] at this
      exact ⟨by rw [this.2], this.1⟩
/-- times of the program's rows -/
theorem goods_times {T : Int} {m n : Nat} {Q : List (List Slot)} (h : Goods T m n Q) (hT : T ≤ 2000000) (SS : List (List EnR)) (hS : plE SS = plQ n Q) : ∀ S ∈ SS, ∀ x ∈ S, ∀ e ∈ x.es, 0 ≤ e.time ∧ e.time ≤ 2000000 := by
  intro S hS' x hx e he
  obtain ⟨j, hj⟩ := List.mem_iff_getElem?.1 hS'
  have h1 : (plE SS)[j]? = some (S.map EnR.es) := by simp [plE, hj]
  rw [hS] at h1
  unfold plQ at h1
  rw [List.getElem?_map] at h1
  cases hq : Q[j]? with
  | none => rw [hq] at h1; cases h1
  | some q =>
    rw [hq] at h1
    injection h1 with h1
    have h2 : x.es ∈ rowsQ n q := by rw [h1]; exact List.mem_map.2 ⟨x, hx, rfl⟩
    unfold rowsQ at h2
    obtain ⟨l, hl, h3⟩ := List.mem_map.1 h2
    rw [← h3] at he
    have := (lsS_mem ((h.each q (List.mem_of_getElem? hq)).2.row l) he).2.time
    omega
end Go.Proofs.Ythmnfbnaeggknaa
