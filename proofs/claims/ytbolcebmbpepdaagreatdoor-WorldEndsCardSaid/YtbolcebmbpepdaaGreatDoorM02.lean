/- Contracts. Conditions: those each states. -/
import Derived.WalkSpells
import Derived.WalkLawsBesides
import Derived.Test.YtbolcebmbpepdaaGreatDoorM00
namespace Go.Proofs.YtbolcebmbpepdaaGreatDoor
set_option maxRecDepth 100000
set_option maxHeartbeats 8000000
set_option linter.all false
open Go.RowKit Tryz
theorem zAi{P:Program}{f:FuncId}{fn:Func}{c:Code}(hf:P.funcs[f]? =some fn)(hname:(fn.name== "runtime.NumGoroutine")=false)(hb:fn.body=some c)(args:Array Value)(w:World):(callFunc f args).run P w= .ok (.enter f args) w:=by
 have h1:fn.name≠ "runtime.NumGoroutine" :=by simpa using hname
 simp[callFunc,hf,h1,hb]
theorem fG{k:IntKind}{a b:Int}(h:a=b):Ending.returned (.int k a)= .returned (.int k b):=by rw[h]
theorem bQ{a b:Bool}(h:a=b):Ending.returned (.bool a)= .returned (.bool b):=by rw[h]
theorem zWh{n:Int}(h:(Lit.int .i64 n).wf=true): -9223372036854775808<=n/\n<=9223372036854775807:=by have hmin:IntKind.i64.min= -9223372036854775808:=rfl;have hmax:IntKind.i64.max=9223372036854775807:=rfl;simp only[Lit.wf,qT,decide_eq_true_eq]at h;omega
theorem zJv(a:Nat)(ha:a<9223372036854775808):(BitVec.ofInt 64 (a:Int)).toNat=a:=by rw[BitVec.ofInt_natCast,BitVec.toNat_ofNat];exact Nat.mod_eq_of_lt (by omega)
theorem zBz(a b:Nat)(ha:a<9223372036854775808)(hb:b<9223372036854775808):bits .and .i64 (a:Int) (b:Int)=((a&&&b:Nat):Int):=by have hx:a&&&b<2^63:=Nat.and_lt_two_pow _ (by omega);show IntKind.i64.wrap ((BitVec.ofInt 64 (a:Int)&&&BitVec.ofInt 64 (b:Int)).toNat:Int)=_;rw[BitVec.toNat_and,zJv a ha,zJv b hb,IntKind.wrap_i64];omega
theorem zQt(a b:Nat)(ha:a<9223372036854775808)(hb:b<9223372036854775808):bits .or .i64 (a:Int) (b:Int)=((a|||b:Nat):Int):=by
 have hx:a|||b<2^63:=Nat.or_lt_two_pow (by omega) (by omega)
 show IntKind.i64.wrap ((BitVec.ofInt 64 (a:Int)|||BitVec.ofInt 64 (b:Int)).toNat:Int)=_;rw[BitVec.toNat_or,zJv a ha,zJv b hb,IntKind.wrap_i64];omega
theorem bit_i64(s who:Nat)(hs:s<=255):(bits .and .i64 ((s:Int)/2^who) 1==1)=s.testBit who:=by
 have e:((s:Int)/2^who)=((s/2^who:Nat):Int):=by simp
 have hd:s/2^who<=255:=qN (Nat.div_le_self _ _) hs;rw[e,show(1:Int)=((1:Nat):Int)from rfl,zBz _ _ (by omega) (by omega),Nat.and_one_is_mod,Nat.testBit_eq_decide_div_mod_eq];rw[Bool.eq_iff_iff];simp;omega
def mayB(s:Int):Bool:=decide (0<=s/\s<=255)
theorem zZs(s:Int)(h0:0<=s)(h1:s<=9223372036854775807):(bits .andNot .u64 s 255==0)=decide (s<=255):=by
 obtain⟨n,rfl⟩:=qP h0;rw[show(255:Int)=((255:Nat):Int)from rfl,u64_andNot_nat n 255 (by omega) (by omega)];have hd:(n&&&(18446744073709551615-255))/2^8=n/2^8:=by rw[Nat.and_div_two_pow,show(18446744073709551615-255)/2^8=2^56-1 from rfl,Nat.and_two_pow_sub_one_eq_mod];exact Nat.mod_eq_of_lt (by omega)
 have hm:(n&&&(18446744073709551615-255))%2^8=0:=by rw[Nat.and_mod_two_pow,show(18446744073709551615-255)%2^8=0 from rfl,Nat.and_zero]
 generalize n&&&(18446744073709551615-255)=x at hd hm⊢;rw[Bool.eq_iff_iff];simp;omega
theorem yEq(s:Int)(h:s<=9223372036854775807)(w:World):Calls prog 51 #[.int .i64 s] w λe w'=>e= .returned (.bool (mayB s))/\w=w':=by
 go_enter func51,ntmps51
 go_wp2
 ·go_ret;exact⟨bQ (by rw[zZs s ‹_› h];unfold mayB;rw[Bool.eq_iff_iff];simp;omega),rfl⟩
 ·go_ret;exact⟨bQ (by unfold mayB;rw[Bool.eq_iff_iff];simp;omega),rfl⟩
theorem shr_pos(s b:Nat):decide ((0:Int)<(s:Int)/2^b)=decide (2^b<=s):=by
 have e:((s:Int)/2^b)=((s/2^b:Nat):Int):=by simp
 rw[e];have h:0<s/2^b↔2^b<=s:=⟨λh=>by
  rcases Nat.lt_or_ge s (2^b)with h1|h1
  ·rw[Nat.div_eq_of_lt h1]at h;omega
  ·exact h1,λh=>Nat.div_pos h (Nat.two_pow_pos b)⟩
 rw[Bool.eq_iff_iff,decide_eq_true_eq,decide_eq_true_eq,<-h];omega
end Go.Proofs.YtbolcebmbpepdaaGreatDoor
