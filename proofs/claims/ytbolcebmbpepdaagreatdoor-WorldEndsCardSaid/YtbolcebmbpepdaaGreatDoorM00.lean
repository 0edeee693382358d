/- Short names for the library's lemmas. Conditions: none beyond what each theorem states. -/
import Derived.Test.YtbolcebmbpepdaaGreatDoorProg
import Derived.Below
import Derived.Deep.Quiet
namespace Go.Proofs.YtbolcebmbpepdaaGreatDoor
set_option linter.all false
open Go.RowKit Tryz
theorem kB{α:Sort _}(a:α):∃x,x=a:=⟨_,rfl⟩
def uS(p:Prop):Prop:=p
theorem uS.s{p:Prop}(h:uS p):p:=h
theorem uT{p:Prop}(h:p):uS p:=h
theorem unhide{p:Prop}(h:uS p):p:=h
def qA:=@Nat.le_refl
def qB:=@List.mem_of_getElem?
def qC:=@Below.refl
def qD:=@List.getD_cons_zero
def qE:=@List.getD_cons_succ
def qF:=@wpQuiet_nil
def qG:=@List.getD_eq_getElem?_getD
def qH:=@World.ownsRow_nil
def qI:=@List.getElem?_eq_getElem
def qJ:=@List.map_cons
def qK:=@List.getElem?_eq_some_iff
def qL:=@Nat.zero_le
def qM:=@List.length_append
def qN:=@Nat.le_trans
def qO:=@List.map_nil
def qP:=@Int.eq_ofNat_of_zero_le
def qQ:=@List.length_map
def qR:=@Int.toNat_natCast
def qS:=@List.take_of_length_le
def qT:=@Bool.and_eq_true
def qU:=@List.getElem?_eq_none
def qV:=@List.getElem?_map
def qW:=@List.drop_of_length_le
def qX:=@List.take_succ_cons
def qY:=@List.length_take
def qZ:=@List.drop_succ_cons
def jA:=@List.map_append
def jB:=@List.length_replicate
def jC:=@List.mem_map
def jD:=@List.mem_cons
def jE:=@List.take_zero
def jF:=@Nat.le_succ
def jG:=@List.length_cons
def jH:=@List.getElem?_toArray
def jI:=@List.mem_append
def jJ:=@List.mem_singleton
def jK:=@List.append_assoc
def jL:=@List.drop_zero
def jM:=@List.getElem?_set_self
def jN:=@List.flatMap_append
def jO:=@List.mem_or_eq_of_mem_set
def jP:=@List.getElem?_cons_succ
def jQ:=@Nat.lt_of_lt_of_le
def jR:=@List.append_nil
def jS:=@World.ownsRow.kept
def jT:=@List.eq_of_mem_replicate
def jU:=@List.flatMap_cons
def jV:=@List.getElem?_replicate
def jW:=@List.take_append_drop
def jX:=@List.getElem?_set_ne
def jY:=@List.mem_iff_getElem?
def jZ:=@List.mem_range
def uB:=@List.mem_replicate
def uC:=@List.eq_nil_of_length_eq_zero
def uD:=@Array.toList_inj
def uE:=@List.all_eq_true
def uF:=@List.take_append_of_le_length
def uG:=@List.getElem?_append_right
theorem uI{a b:Prop}(a':a)(b':b):uS a/\uS b:=⟨a',b'⟩
theorem uJ{a b c:Prop}(a':a)(b':b)(c':c):uS a/\uS b/\uS c:=⟨a',b',c'⟩
theorem uK{a b c d:Prop}(a':a)(b':b)(c':c)(d':d):uS a/\uS b/\uS c/\uS d:=⟨a',b',c',d'⟩
theorem uL{a b c d e:Prop}(a':a)(b':b)(c':c)(d':d)(e':e):uS a/\uS b/\uS c/\uS d/\uS e:=⟨a',b',c',d',e'⟩
theorem uM{a b c d e f:Prop}(a':a)(b':b)(c':c)(d':d)(e':e)(f':f):uS a/\uS b/\uS c/\uS d/\uS e/\uS f:=⟨a',b',c',d',e',f'⟩
theorem uN{a b c d e f g:Prop}(a':a)(b':b)(c':c)(d':d)(e':e)(f':f)(g':g):uS a/\uS b/\uS c/\uS d/\uS e/\uS f/\uS g:=⟨a',b',c',d',e',f',g'⟩
theorem uO{a b c d e f g h:Prop}(a':a)(b':b)(c':c)(d':d)(e':e)(f':f)(g':g)(h':h):uS a/\uS b/\uS c/\uS d/\uS e/\uS f/\uS g/\uS h:=⟨a',b',c',d',e',f',g',h'⟩
theorem uP{a b c d e f g h i:Prop}(a':a)(b':b)(c':c)(d':d)(e':e)(f':f)(g':g)(h':h)(i':i):uS a/\uS b/\uS c/\uS d/\uS e/\uS f/\uS g/\uS h/\uS i:=⟨a',b',c',d',e',f',g',h',i'⟩
theorem uQ{a b c d e f g h i j:Prop}(a':a)(b':b)(c':c)(d':d)(e':e)(f':f)(g':g)(h':h)(i':i)(j':j):uS a/\uS b/\uS c/\uS d/\uS e/\uS f/\uS g/\uS h/\uS i/\uS j:=⟨a',b',c',d',e',f',g',h',i',j'⟩
abbrev uR(w w':World):Prop:=Below w.heap.size w w'
theorem uH{w w':World}{o:Obj}(h:w'=w.alloc o):Below w.heap.size w w':=by rw[h];exact(Below.refl _ _).alloc (Nat.le_refl _) _
end Go.Proofs.YtbolcebmbpepdaaGreatDoor
