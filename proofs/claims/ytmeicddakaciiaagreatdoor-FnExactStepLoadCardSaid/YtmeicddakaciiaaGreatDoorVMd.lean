/-
  The library of the proof, part 4.
-/
import Derived.Test.YtmeicddakaciiaaGreatDoorVMc
import Derived.Lib.Bytealg
import Derived.Sort.LotA
import Derived.Laws.Strings
import Derived.Lib.ItoaNum
import Derived.Sort.Grow
import Derived.Deep.Draws
import Derived.Deep.WholeRow
import Derived.Laws.CopyRow
import Derived.Laws.NewBlocks
import Derived.Lib.ConvBytes
set_option linter.unusedVariables false
set_option linter.unusedSimpArgs false
namespace Go.D
set_option linter.unusedSimpArgs false
section
variable {P:Program} {E:Env} {m:Nat} {fn:Func} {t:Ty}
def szF (s:Sh) (f:s.X->Nat):Fct:=⟨[.v s,aI],[rI],λ(x:s.X×Int×Unit)=>Sh.good s x.1/\0<=x.2.1/\x.2.1<=1048576,λ(x:s.X×Int×Unit)=>(lessen x.2.1 (f x.1),())⟩
def szX (t:Ty) (f:El t->Nat) (l:List (El t)) (n:Int):Out :=
 .br (decide (wr (n-(l.length:Int))<0)) (.lf (szF (.sl t) (szL f)) ((-1:Int),()))
  (lpx (Afp t f l n) (wr (n-(l.length:Int)),((0:Int),())) λ(y2:Int×Int×PUnit) bk2=>
   .br (decide (y2.2.1<(l.length:Int)))
    (.ob (inB y2.2.1 l.length)<|.cl (szF (.el t) f) (l.getD y2.2.1.toNat default,y2.1,()) λz2=>.br (decide (z2.1<0)) (.lf (szF (.sl t) (szL f)) ((-1:Int),())) (.ob (l=l)<|.ob (bk2 (z2.1,(w1 y2.2.1,())))<|.ok))
    (.lf (szF (.sl t) (szL f)) (y2.1,())))
theorem AiW {f:El t->Nat} {l:List (El t)} {n:Int} (hp0:(szF (.sl t) (szL f)).pre (l,n,())):(szX t f l n).holds ((szF (.sl t) (szL f)).ctr (l,n,())).post:=by
 have hp:Sh.good (.sl t) l/\0<=n/\n<=1048576:=hp0;clear hp0;refine Ab (λh1=>lfY ?_) (λh1=>An ?_ λ(y2:Int×Int×PUnit) i2=>Ab (λh3=>Aa ?_ λo4=>Af ?_ λo5=>(Ab (λh6=>lfY ?_) (λh6=>Aa rfl λ_=>Aa ?_ λo7=>trivial))) (λh3=>lfY ?_));all_goals try simp only[Hg] at *
 all_goals try simp only[Afp,szF,AiE,Nat.reduceAdd] at *
 ·have:=good_len hp.1;simp only[maxLen] at this;rw[Ag o_] at h1;rw[Ge (by simp only[szL];omega)]
 ·have:=good_len hp.1;simp only[maxLen] at this;rw[Ag o_] at h1 ⊢;simp_all
 ·omega
 ·exact⟨QZ hp.1 o_,o_,o_⟩
 ·have hs:=GE f l (y2.2.1.toNat+1);rw[Ji f o_] at hs;rw[Ht o_] at h6;rw[Ge (by simp only[szL];omega)]
 ·have hw:IntKind.i64.wrap (y2.2.1+1)=y2.2.1+1:=Ag (by have:=good_len hp.1;simp only[maxLen] at this;omega);have h7:¬ lessen y2.1 (f (l.getD y2.2.1.toNat default))<0:=o_
  rw[Ht o_] at h7;rw[hw,toNat1 o_,Ji f o_,Hn o_];omega
 ·have e:l.take y2.2.1.toNat=l:=Qb1 o_;rw[e] at i2;have hz:((szL f l:Nat):Int)=l.length+(l.map f).sum:=by simp only[szL];omega
  rw[Hn o_];grind
theorem szS {f:El t->Nat} (kp:List Nat) (hE:EOk P E) (hf:P.funcs[m]? = some fn)
 (h:∀ l k,F5 P E (λ|5=>some (Afp t f l k)|_=>none) kp [] fn ((szF (.sl t) (szL f)).arg (l,k,()))=szX t f l k)
 (hc:(fn.body.isSome&&decide (2<=fn.ntmps))=true:=by kernel_rfl):(szF (.sl t) (szL f)).ok P m:=by
 rw[Qa1] at hc;exact Fct.of (S:=szF (.sl t) (szL f)) (L:=λx=>λ|5=>some (Afp t f x.1 x.2.1)|_=>none) hE hf hc.1 hc.2 λx hx=>⟨(h x.1 x.2.1)▸AiW hx⟩
inductive SzI:Type
 | p (k:Nat)
 | c (s:Sh) (f:s.X->Nat) (x:s.X)
def SzI.n:SzI->Nat
 | .p k=>k
 | .c _ f x=>f x
def SzI.ok:SzI->Prop
 | .p k=>k<=maxLen
 | .c s _ x=>Sh.good s x
def Aiv (a:Nat):List SzI->Nat
 | []=>a
 | i::is=>Aiv (a+i.n) is
def Afg:List SzI->Nat
 | []=>0
 | i::is=>Aiv i.n is
def F7:List SzI->Prop
 | []=>True
 | i::is=>i.ok/\F7 is
def Qs:List SzI->Nat
 | []=>0
 | i::is=>i.n+Qs is
theorem WK:∀ (is:List SzI) (a:Nat),Aiv a is=a+Qs is
 | [],a=>rfl
 | i::is,a=>by rw[Aiv,WK is,Qs];omega
theorem AaP (is:List SzI):Afg is=Qs is:=by
 cases is with
 | nil=>rfl
 | cons i is=>rw[Afg,WK];rfl
def szC (s:Sh) (f:s.X->Nat):List SzI->Int->Out
 | [],k=>.lf (szF s f) (k,())
 | .p a::r,k=>.br (decide (wr (k-(a:Int))<0)) (.lf (szF s f) ((-1:Int),())) (szC s f r (wr (k-(a:Int))))
 | .c s' f' x::r,k=>.cl (szF s' f') (x,k,()) λz=>.br (decide (z.1<0)) (.lf (szF s f) ((-1:Int),())) (szC s f r z.1)
theorem Afo {s:Sh} {f:s.X->Nat} {x:s.X} {n:Int}:∀ (is:List SzI) (k:Int),0<=k->k<=1048576->F7 is->lessen n (f x)=lessen k (Qs is)->(szC s f is k).holds ((szF s f).ctr (x,n,())).post
 | [],k,h0,h1,_,h=>lfY (by show(k,())=(lessen n (f x),());rw[h,Qs,Hn o_];simp)
 | .p a::r,k,h0,h1,ho,h=>by
  have ha:a<=maxLen:=ho.1;simp only[maxLen] at ha;have e:wr (k-(a:Int))=k-a:=Ag o_;simp only[Qs,SzI.n] at h;refine Ab (λhb=>lfY ?_) (λhb=>?_)
  ·rw[e] at hb;simp only[Qa7] at hb;show((-1:Int),())=(lessen n (f x),());rw[h,Ge o_]
  ·rw[e] at hb ⊢;simp only[Qa9] at hb;refine Afo r _ o_ o_ ho.2 ?_;rw[h];unfold lessen;omega
 | .c s' f' y::r,k,h0,h1,ho,h=>by
  simp only[Qs,SzI.n] at h;refine Af ⟨ho.1,h0,h1⟩ λ_=>?_
  refine Ab (λhb=>lfY ?_) (λhb=>?_)
  ·have hb:decide (lessen k (f' y)<0)=true:=hb;simp only[Qa7] at hb;rw[Ht h0] at hb;show((-1:Int),())=(lessen n (f x),());rw[h,Ge o_]
  ·have hb:decide (lessen k (f' y)<0)=false:=hb;simp only[Qa9] at hb;have e:lessen k (f' y)=k-f' y:=by rw[Ht h0] at hb;exact Hn o_
   rw[Ht h0] at hb;show(szC s f r (lessen k (f' y))).holds _;rw[e];refine Afo r _ o_ o_ ho.2 ?_;rw[h];unfold lessen;omega
theorem szT {s:Sh} {f:s.X->Nat} (kp:List Nat) (is:s.X->List SzI) (hE:EOk P E) (hf:P.funcs[m]? = some fn)
 (h:∀ x k,F5 P E (λ_=>none) kp [] fn ((szF s f).arg (x,k,()))=szC s f (is x) k)
 (hs:∀ x,f x=Afg (is x)) (hg:∀ x,Sh.good s x->F7 (is x))
 (hc:(fn.body.isSome&&decide (2<=fn.ntmps))=true:=by kernel_rfl):(szF s f).ok P m:=by
 rw[Qa1] at hc;refine Fct.of (S:=szF s f) (L:=λ_ _=>none) hE hf hc.1 hc.2 λx hx=>⟨(h x.1 x.2.1)▸Afo (is x.1) x.2.1 hx.2.1 hx.2.2 (hg _ hx.1) ?_⟩
 rw[hs,AaP]
def toF (s:Sh) (f:s.X->Nat):Fct:=⟨[.v s],[s],λ(x:s.X×Unit)=>f x.1<=1048576,λ(x:s.X×Unit)=>(x.1,())⟩
def toX (t:Ty) (f:El t->Nat) (c:Int) (l:List (El t)):Out :=
 .ob ((l.length:Int)=(l.length:Int)/\(0:Int)<=(l.length:Int)/\c*(l.length:Int)<=140737488355328/\(l.length:Int)<=140737488355328) <|
 lpx (Aaz t l) ((0:Int),(List.replicate (l.length:Int).toNat default,())) λ(y2:Int×List (El t)×PUnit) bk2=>
  .br (decide (y2.1<(l.length:Int)))
   (.ob (inB y2.1 l.length)<|.cl (toF (.el t) f) (l.getD y2.1.toNat default,()) λz2=>.ob (inB y2.1 y2.2.1.length)<|.ob (y2.1.toNat<y2.2.1.length) <|
    .lt (List (El t)) (y2.2.1.modify y2.1.toNat λz=>z2.1) λz3=>.ob (l=l)<|.ob (bk2 (w1 y2.1,(z3,())))<|.ok)
   (.lf (toF (.sl t) (szL f)) (y2.2.1,()))
theorem Ajj {f:El t->Nat} {c:Int} (hc:0<=c/\c<=100000000) {l:List (El t)} (hp0:(toF (.sl t) (szL f)).pre (l,())):(toX t f c l).holds ((toF (.sl t) (szL f)).ctr (l,())).post:=by
 have hp:szL f l<=1048576:=hp0;clear hp0;refine Aa ?_ λo1=>An ?_ λ(y2:Int×List (El t)×PUnit) i2=>Ab (λh3=>Aa ?_ λo4=>Af ?_ λo5=>(Aa ?_ λo6=>Aa ?_ λo7=>DQ (Aa rfl λ_=>Aa ?_ λo8=>trivial))) (λh3=>lfY ?_)
 all_goals try simp only[Hg] at *
 all_goals try simp only[Aaz,toF,AiE,Nat.reduceAdd] at *
 all_goals have hL:=Ac f l
 ·refine⟨o_,?_,o_⟩;have:=Int.mul_le_mul hc.2 (show(l.length:Int)<=1048576 from o_) o_ o_;omega
 ·simp
 ·omega
 ·have hs:=GE f l (y2.1.toNat+1);rw[Ji f o_] at hs;simp only[szL] at hp;omega
 ·simp_all
 ·omega
 ·have hw:IntKind.i64.wrap (y2.1+1)=y2.1+1:=Ag o_;rw[hw,toNat1 o_,i2.2.2];refine⟨⟨o_,o_,?_⟩,o_⟩;rw[show l.length-y2.1.toNat=(l.length-(y2.1.toNat+1))+1 from o_,List.replicate_succ,Hz (by simp;omega),take_succ o_];simp
 ·have e:l.take y2.1.toNat=l:=Qb1 o_;simp_all
theorem toS {f:El t->Nat} (kp:List Nat) (c:Int) (hE:EOk P E) (hf:P.funcs[m]? = some fn)
 (h:∀ l,F5 P E (λ|3=>some (Aaz t l)|_=>none) kp [] fn ((toF (.sl t) (szL f)).arg (l,()))=toX t f c l)
 (hc:(fn.body.isSome&&decide (1<=fn.ntmps)&&decide (0<=c/\c<=100000000))=true:=by kernel_rfl):(toF (.sl t) (szL f)).ok P m:=by
 rw[Qa1,Qa1] at hc;exact Fct.of (S:=toF (.sl t) (szL f)) (L:=λx=>λ|3=>some (Aaz t x.1)|_=>none) hE hf hc.1.1 hc.1.2 λx hx=>⟨(h x.1)▸Ajj (Qg1 hc.2) hx⟩
structure ToI where
 s:Sh
 f:s.X->Nat
 x:s.X
abbrev ToX:List ToI->Type
 | []=>Unit
 | i::is=>i.s.X×ToX is
def Ajd:(is:List ToI)->ToX is
 | []=>()
 | i::is=>(i.x,Ajd is)
def toC:(is:List ToI)->(ToX is->Out)->Out
 | [],K=>K ()
 | i::is,K=>.cl (toF i.s i.f) (i.x,()) λz=>toC is λzs=>K (z.1,zs)
def F9:List ToI->Prop
 | []=>True
 | i::is=>i.f i.x<=1048576/\F9 is
theorem Ah8 {Q:Post}:∀ (is:List ToI) (K:ToX is->Out),F9 is->(K (Ajd is)).holds Q->(toC is K).holds Q
 | [],K,_,h=>h
 | i::is,K,ho,h=>Af ho.1 λ_=>Ah8 is (λzs=>K (i.x,zs)) ho.2 h
theorem toT {s:Sh} {f:s.X->Nat} (kp:List Nat) (is:s.X->List ToI) (K:(x:s.X)->ToX (is x)->s.X) (hE:EOk P E) (hf:P.funcs[m]? = some fn)
 (h:∀ x,F5 P E (λ_=>none) kp [] fn ((toF s f).arg (x,()))=toC (is x) λz=>.lf (toF s f) (K x z,()))
 (hk:∀ x,K x (Ajd (is x))=x) (hg:∀ x,f x<=1048576->F9 (is x))
 (hc:(fn.body.isSome&&decide (1<=fn.ntmps))=true:=by kernel_rfl):(toF s f).ok P m:=by
 rw[Qa1] at hc;exact Fct.of (S:=toF s f) (L:=λ_ _=>none) hE hf hc.1 hc.2 λx hx=>⟨(h x.1)▸Ah8 (is x.1) _ (hg _ hx) (lfY (by rw[hk];rfl))⟩
def eqF (s:Sh) [DecidableEq s.X] (p:s.X->Nat):Fct:=⟨[.v s,.v s],[rB],λ(x:s.X×s.X×Unit)=>p x.1<=1125899906842624,λ(x:s.X×s.X×Unit)=>(decide (x.1=x.2.1),())⟩
def obB (b:Bool) (x:Bool) (X:Out):Out:=match b with
 | true=>.ob (Value.bool x=Value.bool x) X
 | false=>X
def eqX (t:Ty) [DecidableEq (El t)] (v:Bool) (p:El t->Nat) (l m:List (El t)):Out :=
 .br ((l.length:Int) != (m.length:Int)) (.lf (eqF (.sl t) (szL p)) (false,()))
  (lpx (AaC t l m) ((0:Int),()) λ(y2:Int×PUnit) bk2=>
   .br (decide (y2.1<(l.length:Int)))
    (.ob (inB y2.1 l.length)<|.ob (inB y2.1 m.length)<|.cl (eqF (.el t) p) (l.getD y2.1.toNat default,m.getD y2.1.toNat default,()) λz2=>
     .br (!z2.1) (.lf (eqF (.sl t) (szL p)) (false,()))
      (.ob (l=l)<|.ob (m=m)<|obB v ((l.length:Int) != (m.length:Int))<|.ob (bk2 (w1 y2.1,()))<|.ok))
    (.lf (eqF (.sl t) (szL p)) (true,())))
theorem AiS {Q:Post} {b x:Bool} {X:Out} (h:X.holds Q):(obB b x X).holds Q:=by cases b<;>first|exact h|exact⟨rfl,h⟩
theorem AiF [DecidableEq (El t)] {v:Bool} {p:El t->Nat} {l m:List (El t)} (hp0:(eqF (.sl t) (szL p)).pre (l,m,())):(eqX t v p l m).holds ((eqF (.sl t) (szL p)).ctr (l,m,())).post:=by
 have hp0:szL p l<=1125899906842624:=hp0;have hp:l.length<=1125899906842624:=Qd7 (Ac p l) hp0;have hm:∀ i,i<l.length->p (l.getD i default)<=1125899906842624:=λi hi=>by have:=DH p hi;omega
 clear hp0;refine Ab (λh1=>lfY ?_) (λh1=>An ?_ λ(y2:Int×PUnit) i2=>Ab (λh3=>Aa ?_ λo4=>Aa ?_ λo4'=>Af ?_ λo5=>(Ab (λh6=>lfY ?_) (λh6=>Aa rfl λ_=>Aa rfl λ_=>AiS (Aa ?_ λo7=>trivial)))) (λh3=>lfY ?_));all_goals try simp only[Hg] at *
 all_goals try simp only[AaC,eqF,AiE,Nat.reduceAdd] at *
 ·grind
 ·simp
 ·omega
 ·omega
 ·exact hm _ o_
 ·grind
 ·have hw:IntKind.i64.wrap (y2.1+1)=y2.1+1:=Ag o_;rw[hw,toNat1 o_];refine⟨⟨o_,o_,?_⟩,o_⟩;rw[take_succ o_,take_succ o_,i2.2.2,h6]
 ·have e:l.take y2.1.toNat=l:=Qb1 o_;grind
theorem eqS [DecidableEq (El t)] {p:El t->Nat} (kp:List Nat) (v:Bool) (hE:EOk P E) (hf:P.funcs[m]? = some fn)
 (h:∀ l r,F5 P E (λ|4=>some (AaC t l r)|_=>none) kp [] fn ((eqF (.sl t) (szL p)).arg (l,r,()))=eqX t v p l r)
 (hc:(fn.body.isSome&&decide (2<=fn.ntmps))=true:=by kernel_rfl):(eqF (.sl t) (szL p)).ok P m:=by
 rw[Qa1] at hc;exact Fct.of (S:=eqF (.sl t) (szL p)) (L:=λx=>λ|4=>some (AaC t x.1 x.2.1)|_=>none) hE hf hc.1 hc.2 λx hx=>⟨(h x.1 x.2.1)▸AiF hx⟩
inductive EqI:Type
 | s (x y:ByteArray)
 | i (x y:Int)
 | b (x y:Bool)
 | c (s:Sh) (d:DecidableEq s.X) (p:s.X->Nat) (x y:s.X)
def EqI.tru:EqI->Prop
 | .s x y=>x=y
 | .i x y=>x=y
 | .b x y=>x=y
 | .c _ _ _ x y=>x=y
def EqI.ok:EqI->Prop
 | .c _ _ p x _=>p x<=1125899906842624
 | _=>True
def Dv:List EqI->Prop
 | []=>True
 | i::is=>i.tru/\Dv is
def F4:List EqI->Prop
 | []=>True
 | i::is=>i.ok/\F4 is
def eqC (s:Sh) [DecidableEq s.X] (p:s.X->Nat):List EqI->Out
 | []=>.lf (eqF s p) (true,())
 | .s u v::r=>.br (!u.toList==v.toList) (.lf (eqF s p) (false,())) (eqC s p r)
 | .i u v::r=>.br (u != v) (.lf (eqF s p) (false,())) (eqC s p r)
 | .b u v::r=>.br (!u==v) (.lf (eqF s p) (false,())) (eqC s p r)
 | .c s' d p' x y::r=>.cl (@eqF s' d p') (x,y,()) λz=>.br (!z.1) (.lf (eqF s p) (false,())) (eqC s p r)
theorem Ah9 {s:Sh} [DecidableEq s.X] {p:s.X->Nat} {x y:s.X}:∀ (is:List EqI),F4 is->(x=y↔Dv is)->(eqC s p is).holds ((eqF s p).ctr (x,y,())).post
 | [],_,h=>lfY (by show(true,())=(decide (x=y),());rw[Qf0 (h.2 trivial)])
 | i::r,ho,h=>by
  have no:¬ i.tru->(Out.lf (eqF s p) (false,())).holds ((eqF s p).ctr (x,y,())).post:=λhb=>lfY (by show(false,())=(decide (x=y),());rw[Qg6 λe=>hb (h.1 e).1])
  have yes:i.tru->(eqC s p r).holds ((eqF s p).ctr (x,y,())).post:=λhb=>Ah9 r ho.2 ⟨λe=>(h.1 e).2,λe=>h.2 ⟨hb,e⟩⟩
  cases i with
  | s u v=>exact Ab (λhb=>no (by simpa [AhB,EqI.tru] using hb)) (λhb=>yes (by simpa [AhB,EqI.tru] using hb))
  | i u v=>exact Ab (λhb=>no (by simpa [EqI.tru] using hb)) (λhb=>yes (by simpa [EqI.tru] using hb))
  | b u v=>exact Ab (λhb=>no (by simpa [EqI.tru] using hb)) (λhb=>yes (by simpa [EqI.tru] using hb))
  | c s' d p' u v=>exact Af ho.1 λ_=>Ab (λhb=>no (by simpa [EqI.tru,eqF] using hb)) (λhb=>yes (by simpa [EqI.tru,eqF] using hb))
theorem eqT {s:Sh} [DecidableEq s.X] {p:s.X->Nat} (kp:List Nat) (is:s.X->s.X->List EqI) (hE:EOk P E) (hf:P.funcs[m]? = some fn)
 (h:∀ x y,F5 P E (λ_=>none) kp [] fn ((eqF s p).arg (x,y,()))=eqC s p (is x y))
 (hs:∀ x y,x=y↔Dv (is x y)) (hg:∀ x y,p x<=1125899906842624->F4 (is x y))
 (hc:(fn.body.isSome&&decide (2<=fn.ntmps))=true:=by kernel_rfl):(eqF s p).ok P m:=by
 rw[Qa1] at hc;exact Fct.of (S:=eqF s p) (L:=λ_ _=>none) hE hf hc.1 hc.2 λx hx=>⟨(h x.1 x.2.1)▸Ah9 (is x.1 x.2.1) (hg _ _ hx) (hs _ _)⟩
end
inductive Fe (α:Type):Type
 | s (g:α->ByteArray) (u:α->ByteArray->α)
 | i (g:α->Int) (u:α->Int->α)
 | b (g:α->Bool) (u:α->Bool->α)
 | l (s:Sh) (n:s.X->Nat) (f:s.X->Int->s.X×Int) (g:α->s.X) (u:α->s.X->α)
def Bd {α:Type} (n:α->Nat) (f:α->Int->α×Int):Prop:=∀ x k,k<=(f x k).2/\(f x k).2<=k+64*n x/\f (f x k).1 k=f x k
section
variable {α:Type}
def Fe.mk1:Fe α->α->Int->α×Int
 | .s _ u,x,k=>(u x (KD k),k+1)
 | .i _ u,x,k=>(u x k,k+1)
 | .b _ u,x,k=>(u x (k.tmod 3==0),k+1)
 | .l _ _ f g u,x,k=>(u x (f (g x) k).1,(f (g x) k).2)
def mkA:List (Fe α)->α->Int->α×Int
 | [],x,k=>(x,k)
 | d::r,x,k=>mkA r (d.mk1 x k).1 (d.mk1 x k).2
def Fe.law:Fe α->Prop
 | .s g u=>(∀ x v,g (u x v)=v)/\∀ x,u x (g x)=x
 | .i g u=>(∀ x v,g (u x v)=v)/\∀ x,u x (g x)=x
 | .b g u=>(∀ x v,g (u x v)=v)/\∀ x,u x (g x)=x
 | .l _ n f g u=>Bd n f/\(∀ x v,g (u x v)=v)/\∀ x,u x (g x)=x
def Fe.same:Fe α->α->α->Prop
 | .s g _,x,y=>g x=g y
 | .i g _,x,y=>g x=g y
 | .b g _,x,y=>g x=g y
 | .l _ _ _ g _,x,y=>g x=g y
def AiB (d:Fe α):List (Fe α)->Prop
 | []=>True
 | e::r=>(∀ x k,d.same (e.mk1 x k).1 x)/\(∀ x k,e.same (d.mk1 x k).1 x)/\AiB d r
def Laws:List (Fe α)->Prop
 | []=>True
 | d::r=>d.law/\AiB d r/\Laws r
def Fe.isv:Fe α->α->Int->Prop
 | .s g _,x,k=>g x=KD k
 | .i g _,x,k=>g x=k
 | .b g _,x,k=>g x=(k.tmod 3==0)
 | .l _ _ f g _,x,k=>(f (g x) k).1=g x
def Fe.cost:Fe α->α->Nat
 | .l _ n _ g _,x=>64*n (g x)
 | _,_=>1
def EE:List (Fe α)->α->Nat
 | [],_=>0
 | d::r,x=>d.cost x+EE r x
def Abp:List (Fe α)->Bool
 | []=>false
 | .l ..::r=>Abp r
 | _::_=>true
theorem Fe.same_trans {d:Fe α} {x y z:α} (h1:d.same x y) (h2:d.same y z):d.same x z:=by
 cases d<;>exact Eq.trans h1 h2
theorem HW {d:Fe α} (h:d.law) (x:α) (k:Int):k<=(d.mk1 x k).2:=by
 cases d with
 | l s n f g u=>exact(h.1 _ _).1
 | _=>exact Int.le_add_one (Int.le_refl _)
theorem Ej:∀ {r:List (Fe α)},Laws r->∀ (x:α) (k:Int),k<=(mkA r x k).2
 | [],_,x,k=>Int.le_refl _
 | d::r,h,x,k=>Int.le_trans (HW h.1 x k) (Ej h.2.2 _ _)
theorem SP:∀ {r:List (Fe α)},Laws r->Abp r=true->∀ (x:α) (k:Int),k+1<=(mkA r x k).2
 | d::r,h,hp,x,k=>by
  have h2:=Ej h.2.2 (d.mk1 x k).1 (d.mk1 x k).2;cases d with
  | l s n f g u=>exact Int.le_trans (Int.add_le_add_right (HW h.1 x k) 1) (SP h.2.2 hp _ _)
  | _=>exact h2
theorem Pr {d:Fe α}:∀ {r:List (Fe α)},AiB d r->∀ (x:α) (k:Int),d.same (mkA r x k).1 x
 | [],_,x,k=>by cases d<;>rfl
 | e::r,h,x,k=>Fe.same_trans (Pr h.2.2 _ _) (h.1 x k)
theorem AdJ {d:Fe α} (h:d.law) {x:α} {k:Int} (hv:d.isv x k):(d.mk1 x k).1=x:=by
 cases d with
 | s g u=>show u x (KD k)=x;rw[<-(hv:g x=KD k)];exact h.2 x
 | i g u=>
  show u x k=x;have hv:g x=k:=hv
  conv=>lhs;rw[<-hv]
  exact h.2 x
 | b g u=>show u x (k.tmod 3==0)=x;rw[<-(hv:g x=(k.tmod 3==0))];exact h.2 x
 | l s n f g u=>show u x (f (g x) k).1=x;rw[(hv:(f (g x) k).1=g x)];exact h.2.2 x
theorem AdC {d:Fe α} (h:d.law) {x y:α} {k:Int} (hs:d.same y (d.mk1 x k).1):d.isv y k/\(d.mk1 y k).2=(d.mk1 x k).2:=by
 cases d with
 | s g u=>exact⟨(hs:g y=g (u x (KD k))).trans (h.1 _ _),rfl⟩
 | i g u=>exact⟨(hs:g y=g (u x k)).trans (h.1 _ _),rfl⟩
 | b g u=>exact⟨(hs:g y=g (u x (k.tmod 3==0))).trans (h.1 _ _),rfl⟩
 | l s n f g u=>
  have e:g y=(f (g x) k).1:=(hs:g y=g (u x (f (g x) k).1)).trans (h.2.1 _ _);have e2:=(h.1 (g x) k).2.2;rw[<-e] at e2;refine⟨?_,?_⟩
  ·show(f (g y) k).1=g y;rw[e2,e]
  ·show(f (g y) k).2=(f (g x) k).2;rw[e2]
theorem Tz {d:Fe α} {r:List (Fe α)} (h:Laws (d::r)) {x:α} {k:Int} (hx:(mkA (d::r) x k).1=x):d.isv x k/\(d.mk1 x k).1=x/\(mkA r x (d.mk1 x k).2).1=x:=by
 have hs:=Pr h.2.1 (d.mk1 x k).1 (d.mk1 x k).2;have hx':(mkA r (d.mk1 x k).1 (d.mk1 x k).2).1=x:=hx;rw[hx'] at hs;have hv:=(AdC h.1 hs).1;have e:=AdJ h.1 hv;simp_all
theorem Pn:∀ {r:List (Fe α)},Laws r->∀ (x:α) (k:Int),mkA r (mkA r x k).1 k=mkA r x k
 | [],_,x,k=>rfl
 | d::r,h,x,k=>by have hs:=Pr h.2.1 (d.mk1 x k).1 (d.mk1 x k).2;obtain⟨hv,e2⟩:=AdC h.1 hs;have e:=AdJ h.1 hv;have ih:=Pn h.2.2 (d.mk1 x k).1 (d.mk1 x k).2;show mkA r (d.mk1 (mkA r (d.mk1 x k).1 (d.mk1 x k).2).1 k).1 (d.mk1 (mkA r (d.mk1 x k).1 (d.mk1 x k).2).1 k).2=mkA r (d.mk1 x k).1 (d.mk1 x k).2;rw[e,e2,ih]
theorem XM {d:Fe α} {x y:α} (h:d.same x y):d.cost x=d.cost y:=by
 cases d with
 | l s n f g u=>show 64*n (g x)=64*n (g y);rw[(h:g x=g y)]
 | _=>rfl
theorem Ahm {d:Fe α} (h:d.law) (x:α) (k:Int):(d.mk1 x k).2<=k+d.cost x:=by
 cases d with
 | l s n f g u=>have:=(h.1 (g x) k).2.1;show(f (g x) k).2<=k+((64*n (g x):Nat):Int);omega
 | _=>exact Int.le_refl _
theorem NA {d:Fe α}:∀ {r:List (Fe α)},AiB d r->∀ (x:α) (k:Int),EE r (d.mk1 x k).1=EE r x
 | [],_,_,_=>rfl
 | e::r,h,x,k=>by show e.cost _+EE r _=e.cost _+EE r _;rw[XM (h.2.1 x k),NA h.2.2 x k]
theorem Aac:∀ {r:List (Fe α)},Laws r->∀ (x:α) (k:Int),(mkA r x k).2<=k+EE r x
 | [],_,x,k=>by show k<=k+((0:Nat):Int);omega
 | d::r,h,x,k=>by have h1:=Ahm h.1 x k;have h2:=Aac h.2.2 (d.mk1 x k).1 (d.mk1 x k).2;rw[NA h.2.1] at h2;show(mkA r (d.mk1 x k).1 (d.mk1 x k).2).2<=k+((d.cost x+EE r x:Nat):Int);omega
theorem bdV {n:α->Nat} {ds:List (Fe α)} (h:Laws ds) (hc:∀ x,EE ds x<=64*n x):Bd n (mkA ds):=λx k=>⟨Ej h x k,by have:=Aac h x k;have:=hc x;omega,Pn h x k⟩
theorem bdL {n:α->Nat} {ds:List (Fe α)} (h:Laws ds) (hc:∀ x,EE ds x<=64*(n x+1)):Bd (szL n) (Aq (mkA ds)):=λl k=>
 ⟨JU (λx k=>Ej h x k) l k,V5 (λx k=>by have:=Aac h x k;have:=hc x;omega) l k,UU (λx k=>Pn h x k) l k⟩
end
section
variable {P:Program} {E:Env} {m:Nat} {fn:Func} {t:Ty} {s:Sh}
def mkF (s:Sh) (f:s.X->Int->s.X×Int):MS:=⟨s,λ(x:s.X) (k:Int)=>0<=k/\(f x k).2<=4000000000000000000,f⟩
def heF (s:Sh) (f:s.X->Int->s.X×Int):Fct:=⟨[.v s,aI],[rI],λ(x:s.X×Int×Unit)=>0<=x.2.1/\(f x.1 x.2.1).2<=4000000000000000000/\(f x.1 x.2.1).1=x.1,λ(x:s.X×Int×Unit)=>((f x.1 x.2.1).2,())⟩
def obI (b:Bool) (X:Out):Out:=match b with
 | true=>.ob (Value.int .i64 0=Value.int .i64 0) X
 | false=>X
def mkC (t:Ty) (v:Bool) (bk:Int×Int×List (El t)×PUnit->Prop):List (Fe (El t))->Int->List (El t)->Int->Out
 | [],i,l,k=>obI v<|.ob (bk (k,(w1 i,(l,())))) .ok
 | .s g u::r,i,l,k=>.cl Gr (k,()) λz=>.ob (inB i l.length)<|.ob (i.toNat<l.length)<|.lt (List (El t)) (l.modify i.toNat λa=>u a z.1) λl'=>mkC t v bk r i l' (w1 k)
 | .i g u::r,i,l,k=>.ob (inB i l.length)<|.ob (i.toNat<l.length)<|.lt (List (El t)) (l.modify i.toNat λa=>u a k) λl'=>mkC t v bk r i l' (w1 k)
 | .b g u::r,i,l,k=>.ob ((3:Int)≠0)<|.ob (inB i l.length)<|.ob (i.toNat<l.length)<|.lt (List (El t)) (l.modify i.toNat λa=>u a (k.tmod 3==0)) λl'=>mkC t v bk r i l' (w1 k)
 | .l s n f g u::r,i,l,k=>.ob (inB i l.length)<|.ob (i.toNat<l.length)<|.ob ((mkF s f).pre (g (l.getD i.toNat default)) k)<|.lt (s.X×Int) ((mkF s f).fn (g (l.getD i.toNat default)) k) λz=>.lt (List (El t)) (l.modify i.toNat λa=>u a z.1) λl'=>mkC t v bk r i l' z.2
theorem MT {k:Int} (h0:0<=k) (h1:k<=4000000000000000000):w1 k=k+1:=Ag ⟨o_,o_⟩
theorem Ah7 {v:Bool} {bk:Int×Int×List (El t)×PUnit->Prop} {Q:Post} {A R:List (El t)} {i:Int} (h0:0<=i) (hA:A.length=i.toNat) :
 ∀ (ds:List (Fe (El t))) (x:El t) (k:Int),Laws ds->0<=k->(mkA ds x k).2<=4000000000000000000->bk ((mkA ds x k).2,(w1 i,(A++(mkA ds x k).1::R,())))->(mkC t v bk ds i (A++x::R) k).holds Q
 | [],x,k,_,_,_,hb=>by cases v<;>first|exact Aa hb λ_=>trivial|exact Aa rfl λ_=>Aa hb λ_=>trivial
 | d::r,x,k,hl,hk,hm,hb=>by
  have hin:inB i (A++x::R).length:=⟨h0,by simp only[Qa3,Qa6];omega⟩;have hlt:i.toNat<(A++x::R).length:=by simp only[Qa3,Qa6];omega
  have hmo:=Ej hl.2.2 (d.mk1 x k).1 (d.mk1 x k).2;have hm':(mkA r (d.mk1 x k).1 (d.mk1 x k).2).2<=4000000000000000000:=hm;have h1:=HW hl.1 x k;have ih:=Ah7 (v:=v) (Q:=Q) h0 hA r (d.mk1 x k).1 (d.mk1 x k).2 hl.2.2 o_ hm' hb;have hw:w1 k=k+1:=MT hk o_;cases d with
  | s g u=>
   refine Af ⟨hk,by show k<=_;omega⟩ λ_=>Aa hin λ_=>Aa hlt λ_=>DQ ?_
   show(mkC t v bk r i ((A++x::R).modify i.toNat λa=>u a (KD k)) (w1 k)).holds Q;rw[Hz hA,hw];exact ih
  | i g u=>
   refine Aa hin λ_=>Aa hlt λ_=>DQ ?_
   rw[Hz hA,hw];exact ih
  | b g u=>
   refine Aa (by decide) λ_=>Aa hin λ_=>Aa hlt λ_=>DQ ?_
   rw[Hz hA,hw];exact ih
  | l s n f g u=>
   refine Aa hin λ_=>Aa hlt λ_=>?_
   rw[getD_at hA];refine Aa ⟨hk,by show(f (g x) k).2<=_;exact Int.le_trans hmo hm'⟩ λ_=>DQ (DQ ?_)
   show(mkC t v bk r i ((A++x::R).modify i.toNat λa=>u a (f (g x) k).1) (f (g x) k).2).holds Q;rw[Hz hA];exact ih
def mkX (t:Ty) (f:El t->Int->El t×Int) (v:Bool) (ds:List (Fe (El t))) (l:List (El t)) (k:Int):Out :=
 lpx (Ai2 t f l k) (k,((0:Int),(l,()))) λ(y1:Int×Int×List (El t)×PUnit) bk1=>
  .br (decide (y1.2.1<(y1.2.2.1.length:Int))) (mkC t v bk1 ds y1.2.1 y1.2.2.1 y1.1) (.leaf (.one false [vi y1.1]) [] [((0:Nat),⟨t,y1.2.2.1⟩)])
theorem Ajf {v:Bool} {ds:List (Fe (El t))} (hl:Laws ds) {l:List (El t)} {k:Int} (hp:0<=k/\(Aq (mkA ds) l k).2<=4000000000000000000) (hlen:l.length<=4000000000000000000):(mkX t (mkA ds) v ds l k).holds ((mkF (.sl t) (Aq (mkA ds))).ctr l k).post:=by
 refine An ⟨by simp,by simp,by simp[Aq],by simp[Aq]⟩ λ(y1:Int×Int×List (El t)×PUnit) i1=>Ab (λh2=>?_) (λh2=>?_)
 all_goals have i3:0<=y1.2.1/\y1.2.1<=l.length/\y1.1=(Aq (mkA ds) (l.take y1.2.1.toNat) k).2/\y1.2.2.1=(Aq (mkA ds) (l.take y1.2.1.toNat) k).1++l.drop y1.2.1.toNat:=i1
 all_goals have hx:y1.2.2.1.length=l.length:=by rw[i3.2.2.2,Qa3,LA,Qc1,Qd8];omega
 all_goals simp only[Qa7,Qa9,hx] at h2
 all_goals clear i1
 ·have hlt:y1.2.1.toNat<l.length:=o_
  have ht:=Jr (f:=mkA ds) hlt k;have hle:=(Fu (f:=mkA ds) (λx k=>Ej hl x k) l (y1.2.1.toNat+1) k).2;have hl0:=(Fu (f:=mkA ds) (λx k=>Ej hl x k) l y1.2.1.toNat k).1;have hA:(Aq (mkA ds) (l.take y1.2.1.toNat) k).1.length=y1.2.1.toNat:=by rw[LA,Qc1];omega
  rw[ht] at hle;rw[<-i3.2.2.1] at hle hl0 ht;rw[i3.2.2.2,drop_cons hlt];refine Ah7 i3.1 hA ds _ _ hl o_ (Int.le_trans hle hp.2) ⟨⟨?_,?_,?_,?_⟩,?_⟩
  ·show 0<=w1 y1.2.1;rw[MT i3.1 o_];omega
  ·show w1 y1.2.1<=_;rw[MT i3.1 o_];omega
  ·show(mkA ds _ y1.1).2=(Aq (mkA ds) (l.take (w1 y1.2.1).toNat) k).2;rw[MT i3.1 o_,toNat1 i3.1,ht]
  ·show _=(Aq (mkA ds) (l.take (w1 y1.2.1).toNat) k).1++l.drop (w1 y1.2.1).toNat;rw[MT i3.1 o_,toNat1 i3.1,ht];simp
  ·show l.length-(w1 y1.2.1).toNat<l.length-y1.2.1.toNat;rw[MT i3.1 o_,toNat1 i3.1];omega
 ·refine MS.leafL (t:=t) (fn:=λl k=>Aq (mkA ds) l k) ?_;have e1:l.take y1.2.1.toNat=l:=Qb1 o_;grind
theorem mkS {ds:List (Fe (El t))} (kp:List Nat) (v:Bool) (hl:Laws ds) (hE:EOk P E) (hf:P.funcs[m]? = some fn)
 (h:∀ l k,F5 P E (λ|2=>some (Ai2 t (mkA ds) l k)|_=>none) kp [0] fn ((mkF (.sl t) (Aq (mkA ds))).arg l k)=mkX t (mkA ds) v ds l k)
 (hc:(fn.body.isSome&&decide (2<=fn.ntmps)&&Abp ds)=true:=by kernel_rfl):(mkF (.sl t) (Aq (mkA ds))).ok P m:=by
 rw[Qa1,Qa1] at hc;refine MS.of (S:=mkF (.sl t) (Aq (mkA ds))) (L:=λl k=>λ|2=>some (Ai2 t (mkA ds) l k)|_=>none) hE hf hc.1.1 hc.1.2 λl k hx=>⟨(h l k)▸Ajf hl hx ?_⟩
 have h1:0<=k/\(Aq (mkA ds) l k).2<=4000000000000000000:=hx;have:=Qk (f:=mkA ds) (SP hl hc.2) l k;omega
def heC (t:Ty) (f:El t->Int->El t×Int) (l:List (El t)) (bk:Int×Int×PUnit->Prop):List (Fe (El t))->Int->Int->Out
 | [],i,k=>.ob (l=l)<|.ob (bk (k,(w1 i,()))) .ok
 | .s g u::r,i,k=>.ob (inB i l.length)<|.cl Gr (k,()) λz=>.br (!(g (l.getD i.toNat default)).toList==z.1.toList) (.lf (heF (.sl t) (Aq f)) ((-1:Int),())) (heC t f l bk r i (w1 k))
 | .i g u::r,i,k=>.ob (inB i l.length)<|.br (g (l.getD i.toNat default) != k) (.lf (heF (.sl t) (Aq f)) ((-1:Int),())) (heC t f l bk r i (w1 k))
 | .b g u::r,i,k=>.ob (inB i l.length)<|.ob ((3:Int)≠0)<|.br (!g (l.getD i.toNat default)==(k.tmod 3==0)) (.lf (heF (.sl t) (Aq f)) ((-1:Int),())) (heC t f l bk r i (w1 k))
 | .l s n f' g u::r,i,k=>.ob (inB i l.length)<|.cl (heF s f') (g (l.getD i.toNat default),k,()) λz=>.br (decide (z.1<0)) (.lf (heF (.sl t) (Aq f)) ((-1:Int),())) (heC t f l bk r i z.1)
theorem Ail {f:El t->Int->El t×Int} {l:List (El t)} {bk:Int×Int×PUnit->Prop} {Q:Post} {i:Int} (hi:inB i l.length) {x:El t} (hx:l.getD i.toNat default=x) :
 ∀ (ds:List (Fe (El t))) (k:Int),Laws ds->0<=k->(mkA ds x k).2<=4000000000000000000->(mkA ds x k).1=x->bk ((mkA ds x k).2,(w1 i,()))->(heC t f l bk ds i k).holds Q
 | [],k,_,_,_,_,hb=>Aa rfl λ_=>Aa hb λ_=>trivial
 | d::r,k,hl,hk,hm,he,hb=>by
  obtain⟨hv,hd1,he2⟩:=Tz hl he;have hmo:=Ej hl.2.2 (d.mk1 x k).1 (d.mk1 x k).2;have hm':(mkA r (d.mk1 x k).1 (d.mk1 x k).2).2<=4000000000000000000:=hm;have h1:=HW hl.1 x k;have hk4:k<=4000000000000000000:=o_
  have hw:w1 k=k+1:=MT hk hk4;have hb':bk ((mkA r (d.mk1 x k).1 (d.mk1 x k).2).2,(w1 i,())):=hb;rw[hd1] at hm' hb' hmo;have ih:=Ail (f:=f) (Q:=Q) hi hx r (d.mk1 x k).2 hl.2.2 o_ hm' he2 hb';cases d with
  | s g u=>
   have hv:g x=KD k:=hv;refine Aa hi λ_=>Af ⟨hk,hk4⟩ λ_=>Ab (λhc=>?_) (λ_=>?_)
   ·rw[hx,hv] at hc;exact absurd hc (by show ¬ ((!(KD k).toList==(KD k).toList)=true);simp)
   ·rw[hw];exact ih
  | i g u=>
   have hv:g x=k:=hv;refine Aa hi λ_=>Ab (λhc=>?_) (λ_=>?_)
   ·simp_all
   ·rw[hw];exact ih
  | b g u=>
   have hv:g x=(k.tmod 3==0):=hv;refine Aa hi λ_=>Aa (by decide) λ_=>Ab (λhc=>?_) (λ_=>?_)
   ·simp_all
   ·rw[hw];exact ih
  | l s n f' g u=>
   have hv:(f' (g x) k).1=g x:=hv;refine Aa hi λ_=>?_
   rw[hx];refine Af ⟨hk,Int.le_trans hmo hm',hv⟩ λ_=>Ab (λhc=>?_) (λ_=>ih)
   have hc:decide ((f' (g x) k).2<0)=true:=hc;simp only[Qa7] at hc;have h1:k<=(f' (g x) k).2:=h1;omega
def heX (t:Ty) (f:El t->Int->El t×Int) (ds:List (Fe (El t))) (l:List (El t)) (k:Int):Out :=
 lpx (Ajt t f l k) (k,((0:Int),())) λ(y1:Int×Int×PUnit) bk1=>
  .br (decide (y1.2.1<(l.length:Int))) (heC t f l bk1 ds y1.2.1 y1.1) (.lf (heF (.sl t) (Aq f)) (y1.1,()))
theorem Ai6 {ds:List (Fe (El t))} (hl:Laws ds) {l:List (El t)} {k:Int} (hp:0<=k/\(Aq (mkA ds) l k).2<=4000000000000000000/\(Aq (mkA ds) l k).1=l) (hlen:l.length<=4000000000000000000):(heX t (mkA ds) ds l k).holds ((heF (.sl t) (Aq (mkA ds))).ctr (l,k,())).post:=by
 refine An ⟨by simp,by simp,by simp[Aq]⟩ λ(y1:Int×Int×PUnit) i1=>Ab (λh2=>?_) (λh2=>?_)
 all_goals have i3:0<=y1.2.1/\y1.2.1<=l.length/\y1.1=(Aq (mkA ds) (l.take y1.2.1.toNat) k).2:=i1
 all_goals simp only[Qa7,Qa9] at h2
 all_goals clear i1
 ·have hlt:y1.2.1.toNat<l.length:=o_
  have ht:=Jr (f:=mkA ds) hlt k;have hle:=(Fu (f:=mkA ds) (λx k=>Ej hl x k) l (y1.2.1.toNat+1) k).2;have hl0:=(Fu (f:=mkA ds) (λx k=>Ej hl x k) l y1.2.1.toNat k).1;have heq:=Wd hp.2.2 hlt;rw[ht] at hle;rw[<-i3.2.2] at hle hl0 ht heq;refine Ail (show inB y1.2.1 l.length from⟨i3.1,h2⟩) rfl ds _ hl o_ (Int.le_trans hle hp.2.1) heq ⟨⟨?_,?_,?_⟩,?_⟩
  ·show 0<=w1 y1.2.1;rw[MT i3.1 o_];omega
  ·show w1 y1.2.1<=_;rw[MT i3.1 o_];omega
  ·show(mkA ds _ y1.1).2=(Aq (mkA ds) (l.take (w1 y1.2.1).toNat) k).2;rw[MT i3.1 o_,toNat1 i3.1,ht]
  ·show l.length-(w1 y1.2.1).toNat<l.length-y1.2.1.toNat;rw[MT i3.1 o_,toNat1 i3.1];omega
 ·have e1:l.take y1.2.1.toNat=l:=Qb1 o_;rw[e1] at i3;exact lfY (by show(y1.1,())=((Aq (mkA ds) l k).2,());rw[i3.2.2])
theorem heS {ds:List (Fe (El t))} (kp:List Nat) (hl:Laws ds) (hE:EOk P E) (hf:P.funcs[m]? = some fn)
 (h:∀ l k,F5 P E (λ|2=>some (Ajt t (mkA ds) l k)|_=>none) kp [] fn ((heF (.sl t) (Aq (mkA ds))).arg (l,k,()))=heX t (mkA ds) ds l k)
 (hc:(fn.body.isSome&&decide (2<=fn.ntmps)&&Abp ds)=true:=by kernel_rfl):(heF (.sl t) (Aq (mkA ds))).ok P m:=by
 rw[Qa1,Qa1] at hc;refine Fct.of (S:=heF (.sl t) (Aq (mkA ds))) (L:=λx=>λ|2=>some (Ajt t (mkA ds) x.1 x.2.1)|_=>none) (kp:=kp) hE hf hc.1.1 hc.1.2 ?_;rintro⟨(l:List (El t)),(k:Int),_⟩ hx;refine⟨(h l k)▸Ai6 hl hx ?_⟩;have h1:0<=k/\(Aq (mkA ds) l k).2<=4000000000000000000/\(Aq (mkA ds) l k).1=l:=hx;have:=Qk (f:=mkA ds) (SP hl hc.2) l k;omega
def mvC (s:Sh):List (Fe s.X)->s.X->Int->Out
 | [],x,k=>.leaf (.one false [vi k]) [] (ED 0 (s.fc x))
 | .l s' n f g u::r,x,k=>.ob ((mkF s' f).pre (g x) k)<|.lt (s'.X×Int) ((mkF s' f).fn (g x) k) λz=>mvC s r (u x z.1) z.2
 | _::_,_,_=>.bad
def Aht {α:Type}:List (Fe α)->Bool
 | []=>true
 | .l ..::r=>Aht r
 | _::_=>false
theorem Aic {Q:Post}:∀ (ds:List (Fe s.X)) (x:s.X) (k:Int),Laws ds->Aht ds=true->0<=k->(mkA ds x k).2<=4000000000000000000->(Out.leaf (.one false [vi (mkA ds x k).2]) [] (ED 0 (s.fc (mkA ds x k).1))).holds Q->(mvC s ds x k).holds Q
 | [],x,k,_,_,_,_,h=>h
 | .l s' n f g u::r,x,k,hl,hs,hk,hm,h=>by have hmo:=Ej hl.2.2 (u x (f (g x) k).1) (f (g x) k).2;have h1:k<=(f (g x) k).2:=HW hl.1 x k;exact Aa ⟨hk,Int.le_trans hmo hm⟩ λ_=>DQ (Aic r _ _ hl.2.2 hs (by show 0<=(f (g x) k).2;omega) hm h)
theorem mvT {ds:List (Fe s.X)} (kp kl:List Nat) (hl:Laws ds) (hE:EOk P E) (hf:P.funcs[m]? = some fn)
 (h:∀ x k,F5 P E (λ_=>none) kp kl fn ((mkF s (mkA ds)).arg x k)=mvC s ds x k)
 (hc:(fn.body.isSome&&decide (2<=fn.ntmps)&&Aht ds)=true:=by kernel_rfl):(mkF s (mkA ds)).ok P m:=by
 rw[Qa1,Qa1] at hc;exact MS.of (S:=mkF s (mkA ds)) (L:=λ_ _ _=>none) (kp:=kp) (kl:=kl) hE hf hc.1.1 hc.1.2 λx k hx=>⟨(h x k)▸Aic ds x k hl hc.2 hx.1 hx.2 (MS.leaf ⟨Fa _,trivial,rfl⟩)⟩
def hvC (s:Sh) (f:s.X->Int->s.X×Int):List (Fe s.X)->s.X->Int->Out
 | [],x,k=>.lf (heF s f) (k,())
 | .l s' n f' g u::r,x,k=>.cl (heF s' f') (g x,k,()) λz=>.br (decide (z.1<0)) (.lf (heF s f) ((-1:Int),())) (hvC s f r x z.1)
 | _::_,_,_=>.bad
theorem Ahu {Q:Post} {f:s.X->Int->s.X×Int} {x:s.X}:∀ (ds:List (Fe s.X)) (k:Int),Laws ds->Aht ds=true->0<=k->(mkA ds x k).2<=4000000000000000000->(mkA ds x k).1=x->(Out.lf (heF s f) ((mkA ds x k).2,())).holds Q->(hvC s f ds x k).holds Q
 | [],k,_,_,_,_,_,h=>h
 | .l s' n f' g u::r,k,hl,hs,hk,hm,he,h=>by
  obtain⟨hv,hd1,he2⟩:=Tz hl he;have hv:(f' (g x) k).1=g x:=hv;have hd1:u x (f' (g x) k).1=x:=hd1;have hm:(mkA r (u x (f' (g x) k).1) (f' (g x) k).2).2<=4000000000000000000:=hm;have h:(Out.lf (heF s f) ((mkA r (u x (f' (g x) k).1) (f' (g x) k).2).2,())).holds Q:=h;rw[hd1] at hm h;have hmo:=Ej hl.2.2 x (f' (g x) k).2;have h1:k<=(f' (g x) k).2:=HW hl.1 x k;refine Af ⟨hk,Int.le_trans hmo hm,hv⟩ λ_=>Ab (λhc=>?_) (λ_=>Ahu r _ hl.2.2 hs (by show 0<=(f' (g x) k).2;omega) hm he2 h)
  have hc:decide ((f' (g x) k).2<0)=true:=hc;grind
theorem hvT {ds:List (Fe s.X)} (kp:List Nat) (hl:Laws ds) (hE:EOk P E) (hf:P.funcs[m]? = some fn)
 (h:∀ x k,F5 P E (λ_=>none) kp [] fn ((heF s (mkA ds)).arg (x,k,()))=hvC s (mkA ds) ds x k)
 (hc:(fn.body.isSome&&decide (2<=fn.ntmps)&&Aht ds)=true:=by kernel_rfl):(heF s (mkA ds)).ok P m:=by
 rw[Qa1,Qa1] at hc;exact Fct.of (S:=heF s (mkA ds)) (L:=λ_ _=>none) (kp:=kp) hE hf hc.1.1 hc.1.2 λx hx=>⟨(h x.1 x.2.1)▸Ahu ds x.2.1 hl hc.2 hx.1 hx.2.1 hx.2.2 (lfY rfl)⟩
end
end Go.D
namespace Go.D
set_option linter.unusedSimpArgs false
set_option maxRecDepth 100000
set_option maxHeartbeats 2000000
def szAddr (x:Sb_):Nat:=x.host.size+x.path.size
def A3 (x:Ss_):Nat:=x.name.size+x.value.size
def szToken (x:Sh_):Nat:=x.name.size+szL A3 x.bo+x.text.size
def Bk (x:So_):Nat:=x.rest.size
def szNode (x:St_):Nat:=x.name.size+x.text.size+szL A3 x.bo
def szBuilder (x:Se_):Nat:=szL szNode x.bi+x.bl.length
def LP (x:Sx_):Nat:=x.name.size
def D3 (x:Sn_):Nat:=szL LP x.rules
def Dk (x:Sr_):Nat:=x.text.size
def szPolicy (x:Si_):Nat:=szL Ad x.bp+szL Ad x.styles+szL Ad x.images+x.nonce.size
def Ae (x:Sd_):Nat:=x.body.size+x.bj.size
def szRequest (x:Sf_):Nat:=szAddr x.to+x.from_.size+x.digest.size
def Ez (x:Sv_):Nat:=x.path.size+Ae x.bd
def AR (x:Sk_):Nat:=x.host.size+szL Ez x.files
def AE (x:Sq_):Nat:=x.top.size+szAddr x.to+Ae x.bd
def szCache (x:Sl_):Nat:=szL AE x.bg
def DM (x:Sw_):Nat:=x.top.size+szAddr x.to
def szNet (x:Su_):Nat:=szL AR x.servers+szCache x.cache+szL DM x.log
def AA (x:Sp_):Nat:=szAddr x.to+x.digest.size+x.body.size
def Aj (x:Sg_):Nat:=szAddr x.to+x.body.size
def szPage (x:Sa_):Nat:=szAddr x.addr+szPolicy x.bj+Bk x.tok+szL szToken x.bn+szBuilder x.ba+szL AA x.bf+szL Aj x.bh+szL szAddr x.bg+szL szAddr x.ran+szL Ad x.log
def Bj (x:Sm_):Nat:=szAddr x.to+Ae x.bd
def Bl (x:Sj_):Nat:=szAddr x.to+Ae x.bd
def AD (x:Sc_):Nat:=szNet x.net+szPage x.page+szL Ad x.parts+szL Bl x.conns+szL Bj x.guesses
theorem AfL (x:Sb_):(⟨x.host,x.path⟩:Sb_)=x:=rfl
theorem AbR (x:Sh_):(⟨x.kind,x.name,x.bo,x.text⟩:Sh_)=x:=rfl
theorem Ag5 (x:St_):(⟨x.name,x.text,x.parent,x.bo⟩:St_)=x:=rfl
theorem VP (x:Se_):(⟨x.bi,x.bl⟩:Se_)=x:=rfl
theorem AcV (x:Sn_):(⟨x.rules⟩:Sn_)=x:=rfl
theorem Xn (x:Si_):(⟨x.set_,x.bp,x.styles,x.images,x.nonce⟩:Si_)=x:=rfl
theorem RH (x:Sd_):(⟨x.status,x.kind,x.body,x.age,x.shares,x.bj⟩:Sd_)=x:=rfl
theorem Vf (x:Sf_):(⟨x.kind,x.to,x.from_,x.digest⟩:Sf_)=x:=rfl
theorem Afm (x:Sv_):(⟨x.path,x.bd⟩:Sv_)=x:=rfl
theorem Y1 (x:Sk_):(⟨x.host,x.files⟩:Sk_)=x:=rfl
theorem Aa5 (x:Sq_):(⟨x.top,x.to,x.bd,x.until_⟩:Sq_)=x:=rfl
theorem AcJ (x:Sl_):(⟨x.bg⟩:Sl_)=x:=rfl
theorem AgT (x:Sw_):(⟨x.top,x.to,x.guess⟩:Sw_)=x:=rfl
theorem Ahs (x:Su_):(⟨x.servers,x.cache,x.log,x.now⟩:Su_)=x:=rfl
theorem AeQ (x:Sp_):(⟨x.mode,x.to,x.digest,x.node,x.done,x.code,x.body⟩:Sp_)=x:=rfl
theorem Aai (x:Sg_):(⟨x.to,x.done,x.code,x.body⟩:Sg_)=x:=rfl
theorem Ag8 (x:Sa_):(⟨x.addr,x.bj,x.tok,x.bn,x.ended,x.ba,x.bf,x.bh,x.bg,x.block,x.inline,x.bm,x.bq,x.ran,x.log,x.loaded⟩:Sa_)=x:=rfl
theorem ZN (x:Sy_):(⟨x.ba,x.log,x.verdicts,x.sheet,x.loaded⟩:Sy_)=x:=rfl
theorem Aa7 (x:Sm_):(⟨x.to,x.bd,x.used⟩:Sm_)=x:=rfl
theorem AgH (x:Sj_):(⟨x.to,x.left,x.guess,x.bd⟩:Sj_)=x:=rfl
theorem Xv (x:Sc_):(⟨x.net,x.page,x.parts,x.conns,x.guesses⟩:Sc_)=x:=rfl
theorem AcY (x:Sz_):(⟨x.addr,x.page,x.kept⟩:Sz_)=x:=rfl
theorem Aij (x:SB_):(⟨x.visits,x.at_⟩:SB_)=x:=rfl
theorem Aib (x y:ByteArray):(x==y)=decide (x=y):=by
 rw[Bool.eq_iff_iff,Qa7];constructor
 ·intro h;have h':(x.data==y.data)=true:=h;cases x;cases y;simpa using h'
 ·rintro rfl;show(x.data==x.data)=true;simp
theorem Di (x y:Sb_):(x.host==y.host&&(x.path==y.path&&true))=decide (x=y):=by
 rw[Bool.eq_iff_iff];cases x;cases y;simp[Aib]
def Su:List (Fe ByteArray):=[.s (λx=>x) λ_ v=>v]
def FU:ByteArray->Int->ByteArray×Int:=mkA Su
theorem MI:Laws Su:=by repeat' first|exact λ_ _=>rfl|exact λ_=>rfl|constructor
theorem Hx:Bd (szL Ad) (Aq FU):=bdL MI (λx=>by simp only[EE,Fe.cost,Su];omega)
def Aju:List (Fe Int):=[.i (λx=>x) λ_ v=>v]
def AcF:Int->Int->Int×Int:=mkA Aju
theorem WF:Laws Aju:=by repeat' first|exact λ_ _=>rfl|exact λ_=>rfl|constructor
theorem Yq:Bd List.length (Aq AcF):=λl k=>by
 have h:=bdL (n:=λ_=>0) WF (λx=>by simp only[EE,Fe.cost,Aju];omega) l k;have e:∀ l:List Int,szL (λ_=>0) l=l.length:=λl=>by
  induction l with
  | nil=>rfl
  | cons a l ih=>simp only[szL,Qd0,List.sum_cons,Qa6] at *;omega
 rw[e] at h;exact h
def AeO:List (Fe Sb_):=[.s (λx=>x.host) λx v=>{x with host:=v},.s (λx=>x.path) λx v=>{x with path:=v}]
def Rg:Sb_->Int->Sb_×Int:=mkA AeO
theorem Tc:Laws AeO:=by repeat' first|exact λ_ _=>rfl|exact λ_=>rfl|constructor
theorem VO:Bd (szL szAddr) (Aq Rg):=bdL Tc (λx=>by simp only[EE,Fe.cost,AeO,szAddr];omega)
def AeE:List (Fe Ss_):=[.s (λx=>x.name) λx v=>{x with name:=v},.s (λx=>x.value) λx v=>{x with value:=v}]
def QI:Ss_->Int->Ss_×Int:=mkA AeE
theorem SA:Laws AeE:=by repeat' first|exact λ_ _=>rfl|exact λ_=>rfl|constructor
theorem NN:Bd (szL A3) (Aq QI):=bdL SA (λx=>by simp only[EE,Fe.cost,AeE,A3];omega)
def Yv:List (Fe Sh_):=[.i (λx=>x.kind) λx v=>{x with kind:=v},.s (λx=>x.name) λx v=>{x with name:=v},.l (.sl .attr) (szL A3) (Aq QI) (λx=>x.bo) λx v=>{x with bo:=v},.s (λx=>x.text) λx v=>{x with text:=v}]
def OU:Sh_->Int->Sh_×Int:=mkA Yv
theorem OP:Laws Yv:=by repeat' first|exact λ_ _=>rfl|exact λ_=>rfl|exact NN|constructor
theorem S4:Bd (szL szToken) (Aq OU):=bdL OP (λx=>by simp only[EE,Fe.cost,Yv,szToken];omega)
def Aex:List (Fe St_):=[.s (λx=>x.name) λx v=>{x with name:=v},.s (λx=>x.text) λx v=>{x with text:=v},.i (λx=>x.parent) λx v=>{x with parent:=v},.l (.sl .attr) (szL A3) (Aq QI) (λx=>x.bo) λx v=>{x with bo:=v}]
def Ut:St_->Int->St_×Int:=mkA Aex
theorem Tb:Laws Aex:=by repeat' first|exact λ_ _=>rfl|exact λ_=>rfl|exact NN|constructor
theorem VC:Bd (szL szNode) (Aq Ut):=bdL Tb (λx=>by simp only[EE,Fe.cost,Aex,szNode];omega)
def Pa:List (Fe Se_):=[.l (.sl .node) (szL szNode) (Aq Ut) (λx=>x.bi) λx v=>{x with bi:=v},.l (.sl .int) List.length (Aq AcF) (λx=>x.bl) λx v=>{x with bl:=v}]
def Jh:Se_->Int->Se_×Int:=mkA Pa
theorem JL:Laws Pa:=by repeat' first|exact λ_ _=>rfl|exact λ_=>rfl|exact Yq|exact VC|constructor
theorem P0:Bd szBuilder Jh:=bdV JL (λx=>by simp only[EE,Fe.cost,Pa,szBuilder];omega)
def Sd:List (Fe Si_):=[.l (.sl .str) (szL Ad) (Aq FU) (λx=>x.bp) λx v=>{x with bp:=v},.l (.sl .str) (szL Ad) (Aq FU) (λx=>x.styles) λx v=>{x with styles:=v},.l (.sl .str) (szL Ad) (Aq FU) (λx=>x.images) λx v=>{x with images:=v}]
def KK:Si_->Int->Si_×Int:=mkA Sd
theorem LC:Laws Sd:=by repeat' first|exact λ_ _=>rfl|exact λ_=>rfl|exact Hx|constructor
theorem SN:Bd szPolicy KK:=bdV LC (λx=>by simp only[EE,Fe.cost,Sd,szPolicy];omega)
def AfW:List (Fe Sv_):=[.s (λx=>x.path) λx v=>{x with path:=v},.i (λx=>x.bd.status) λx v=>{x with bd:={x.bd with status:=v}},.i (λx=>x.bd.kind) λx v=>{x with bd:={x.bd with kind:=v}},.s (λx=>x.bd.body) λx v=>{x with bd:={x.bd with body:=v}},.i (λx=>x.bd.age) λx v=>{x with bd:={x.bd with age:=v}},.b (λx=>x.bd.shares) λx v=>{x with bd:={x.bd with shares:=v}},.s (λx=>x.bd.bj) λx v=>{x with bd:={x.bd with bj:=v}}]
def To:Sv_->Int->Sv_×Int:=mkA AfW
theorem RS:Laws AfW:=by repeat' first|exact λ_ _=>rfl|exact λ_=>rfl|constructor
theorem VQ:Bd (szL Ez) (Aq To):=bdL RS (λx=>by simp only[EE,Fe.cost,AfW,Ez,Ae];omega)
def Sm:List (Fe Sk_):=[.s (λx=>x.host) λx v=>{x with host:=v},.l (.sl .file) (szL Ez) (Aq To) (λx=>x.files) λx v=>{x with files:=v}]
def KV:Sk_->Int->Sk_×Int:=mkA Sm
theorem Lf:Laws Sm:=by repeat' first|exact λ_ _=>rfl|exact λ_=>rfl|exact VQ|constructor
theorem P7:Bd (szL AR) (Aq KV):=bdL Lf (λx=>by simp only[EE,Fe.cost,Sm,AR];omega)
def Aar:List (Fe Sq_):=[.s (λx=>x.top) λx v=>{x with top:=v},.s (λx=>x.to.host) λx v=>{x with to:={x.to with host:=v}},.s (λx=>x.to.path) λx v=>{x with to:={x.to with path:=v}},.i (λx=>x.bd.status) λx v=>{x with bd:={x.bd with status:=v}},.i (λx=>x.bd.kind) λx v=>{x with bd:={x.bd with kind:=v}},.s (λx=>x.bd.body) λx v=>{x with bd:={x.bd with body:=v}},.i (λx=>x.bd.age) λx v=>{x with bd:={x.bd with age:=v}},.b (λx=>x.bd.shares) λx v=>{x with bd:={x.bd with shares:=v}},.s (λx=>x.bd.bj) λx v=>{x with bd:={x.bd with bj:=v}},.i (λx=>x.until_) λx v=>{x with until_:=v}]
def N1:Sq_->Int->Sq_×Int:=mkA Aar
theorem O4:Laws Aar:=by repeat' first|exact λ_ _=>rfl|exact λ_=>rfl|constructor
theorem Rp:Bd (szL AE) (Aq N1):=bdL O4 (λx=>by simp only[EE,Fe.cost,Aar,szAddr,AE,Ae];omega)
def Aav:List (Fe Sl_):=[.l (.sl .entry) (szL AE) (Aq N1) (λx=>x.bg) λx v=>{x with bg:=v}]
def O5:Sl_->Int->Sl_×Int:=mkA Aav
theorem N8:Laws Aav:=by repeat' first|exact λ_ _=>rfl|exact λ_=>rfl|exact Rp|constructor
theorem Vk:Bd szCache O5:=bdV N8 (λx=>by simp only[EE,Fe.cost,Aav,szCache];omega)
def Afw:List (Fe Sw_):=[.s (λx=>x.top) λx v=>{x with top:=v},.s (λx=>x.to.host) λx v=>{x with to:={x.to with host:=v}},.s (λx=>x.to.path) λx v=>{x with to:={x.to with path:=v}},.b (λx=>x.guess) λx v=>{x with guess:=v}]
def T6:Sw_->Int->Sw_×Int:=mkA Afw
theorem SL:Laws Afw:=by repeat' first|exact λ_ _=>rfl|exact λ_=>rfl|constructor
theorem Vn:Bd (szL DM) (Aq T6):=bdL SL (λx=>by simp only[EE,Fe.cost,Afw,szAddr,DM];omega)
def Ai0:List (Fe Su_):=[.l (.sl .server) (szL AR) (Aq KV) (λx=>x.servers) λx v=>{x with servers:=v},.l (.el .cache) szCache O5 (λx=>x.cache) λx v=>{x with cache:=v},.l (.sl .sent) (szL DM) (Aq T6) (λx=>x.log) λx v=>{x with log:=v}]
def Adb:Su_->Int->Su_×Int:=mkA Ai0
theorem Xh:Laws Ai0:=by repeat' first|exact λ_ _=>rfl|exact λ_=>rfl|exact Vn|exact P7|exact Vk|constructor
theorem AaU:Bd szNet Adb:=bdV Xh (λx=>by simp only[EE,Fe.cost,Ai0,szNet];omega)
def Ag1:List (Fe Sp_):=[.i (λx=>x.mode) λx v=>{x with mode:=v},.s (λx=>x.to.host) λx v=>{x with to:={x.to with host:=v}},.s (λx=>x.to.path) λx v=>{x with to:={x.to with path:=v}},.s (λx=>x.digest) λx v=>{x with digest:=v},.i (λx=>x.node) λx v=>{x with node:=v},.b (λx=>x.done) λx v=>{x with done:=v},.i (λx=>x.code) λx v=>{x with code:=v},.s (λx=>x.body) λx v=>{x with body:=v}]
def Tl:Sp_->Int->Sp_×Int:=mkA Ag1
theorem Sn:Laws Ag1:=by repeat' first|exact λ_ _=>rfl|exact λ_=>rfl|constructor
theorem Vd:Bd (szL AA) (Aq Tl):=bdL Sn (λx=>by simp only[EE,Fe.cost,Ag1,szAddr,AA];omega)
def Se:List (Fe Sg_):=[.s (λx=>x.to.host) λx v=>{x with to:={x.to with host:=v}},.s (λx=>x.to.path) λx v=>{x with to:={x.to with path:=v}},.b (λx=>x.done) λx v=>{x with done:=v},.i (λx=>x.code) λx v=>{x with code:=v},.s (λx=>x.body) λx v=>{x with body:=v}]
def KT:Sg_->Int->Sg_×Int:=mkA Se
theorem L7:Laws Se:=by repeat' first|exact λ_ _=>rfl|exact λ_=>rfl|constructor
theorem QT:Bd (szL Aj) (Aq KT):=bdL L7 (λx=>by simp only[EE,Fe.cost,Se,szAddr,Aj];omega)
def Aeg:List (Fe Sa_):=[.l (.el .bj) szPolicy KK (λx=>x.bj) λx v=>{x with bj:=v},.l (.sl .token) (szL szToken) (Aq OU) (λx=>x.bn) λx v=>{x with bn:=v},.l (.el .ba) szBuilder Jh (λx=>x.ba) λx v=>{x with ba:=v},.l (.sl .slot) (szL AA) (Aq Tl) (λx=>x.bf) λx v=>{x with bf:=v},.l (.sl .module) (szL Aj) (Aq KT) (λx=>x.bh) λx v=>{x with bh:=v},.l (.sl .addr) (szL szAddr) (Aq Rg) (λx=>x.bg) λx v=>{x with bg:=v},.l (.sl .addr) (szL szAddr) (Aq Rg) (λx=>x.ran) λx v=>{x with ran:=v},.l (.sl .str) (szL Ad) (Aq FU) (λx=>x.log) λx v=>{x with log:=v}]
def Ub:Sa_->Int->Sa_×Int:=mkA Aeg
theorem Sr:Laws Aeg:=by repeat' first|exact λ_ _=>rfl|exact λ_=>rfl|exact VO|exact QT|exact Vd|exact Hx|exact S4|exact P0|exact SN|constructor
theorem ZU:Bd szPage Ub:=bdV Sr (λx=>by simp only[EE,Fe.cost,Aeg,szPage];omega)
def ZO:List (Fe Sm_):=[.s (λx=>x.to.host) λx v=>{x with to:={x.to with host:=v}},.s (λx=>x.to.path) λx v=>{x with to:={x.to with path:=v}},.i (λx=>x.bd.status) λx v=>{x with bd:={x.bd with status:=v}},.i (λx=>x.bd.kind) λx v=>{x with bd:={x.bd with kind:=v}},.s (λx=>x.bd.body) λx v=>{x with bd:={x.bd with body:=v}},.i (λx=>x.bd.age) λx v=>{x with bd:={x.bd with age:=v}},.b (λx=>x.bd.shares) λx v=>{x with bd:={x.bd with shares:=v}},.s (λx=>x.bd.bj) λx v=>{x with bd:={x.bd with bj:=v}},.b (λx=>x.used) λx v=>{x with used:=v}]
def N5:Sm_->Int->Sm_×Int:=mkA ZO
theorem Od:Laws ZO:=by repeat' first|exact λ_ _=>rfl|exact λ_=>rfl|constructor
theorem Ss:Bd (szL Bj) (Aq N5):=bdL Od (λx=>by simp only[EE,Fe.cost,ZO,szAddr,Bj,Ae];omega)
def Ad8:List (Fe Sj_):=[.s (λx=>x.to.host) λx v=>{x with to:={x.to with host:=v}},.s (λx=>x.to.path) λx v=>{x with to:={x.to with path:=v}},.i (λx=>x.left) λx v=>{x with left:=v},.b (λx=>x.guess) λx v=>{x with guess:=v},.i (λx=>x.bd.status) λx v=>{x with bd:={x.bd with status:=v}},.i (λx=>x.bd.kind) λx v=>{x with bd:={x.bd with kind:=v}},.s (λx=>x.bd.body) λx v=>{x with bd:={x.bd with body:=v}},.i (λx=>x.bd.age) λx v=>{x with bd:={x.bd with age:=v}},.b (λx=>x.bd.shares) λx v=>{x with bd:={x.bd with shares:=v}},.s (λx=>x.bd.bj) λx v=>{x with bd:={x.bd with bj:=v}}]
def T3:Sj_->Int->Sj_×Int:=mkA Ad8
theorem So:Laws Ad8:=by repeat' first|exact λ_ _=>rfl|exact λ_=>rfl|constructor
theorem VJ:Bd (szL Bl) (Aq T3):=bdL So (λx=>by simp only[EE,Fe.cost,Ad8,szAddr,Bl,Ae];omega)
def Rx:List (Fe Sc_):=[.l (.el .net) szNet Adb (λx=>x.net) λx v=>{x with net:=v},.l (.el .page) szPage Ub (λx=>x.page) λx v=>{x with page:=v},.l (.sl .str) (szL Ad) (Aq FU) (λx=>x.parts) λx v=>{x with parts:=v},.l (.sl .conn) (szL Bl) (Aq T3) (λx=>x.conns) λx v=>{x with conns:=v},.l (.sl .guess) (szL Bj) (Aq N5) (λx=>x.guesses) λx v=>{x with guesses:=v}]
def CD:Sc_->Int->Sc_×Int:=mkA Rx
theorem Mc:Laws Rx:=by repeat' first|exact λ_ _=>rfl|exact λ_=>rfl|exact VJ|exact Ss|exact Hx|exact AaU|exact ZU|constructor
theorem MP:Bd AD CD:=bdV Mc (λx=>by simp only[EE,Fe.cost,Rx,AD];omega)
theorem SQ (x:Sc_) (k:Int):{ net:={ servers:=(CD x k).1.net.servers,cache:=(CD x k).1.net.cache,log:=(CD x k).1.net.log,now:=x.net.now:Su_ },page:={ addr:=x.page.addr,bj:={ set_:=x.page.bj.set_,bp:=(CD x k).1.page.bj.bp,styles:=(CD x k).1.page.bj.styles,images:=(CD x k).1.page.bj.images,nonce:=x.page.bj.nonce:Si_ },tok:=x.page.tok,bn:=(CD x k).1.page.bn,ended:=x.page.ended,ba:=(CD x k).1.page.ba,bf:=(CD x k).1.page.bf,bh:=(CD x k).1.page.bh,bg:=(CD x k).1.page.bg,block:=x.page.block,inline:=x.page.inline,bm:=x.page.bm,bq:=x.page.bq,ran:=(CD x k).1.page.ran,log:=(CD x k).1.page.log,loaded:=x.page.loaded:Sa_ },parts:=(CD x k).1.parts,conns:=(CD x k).1.conns,guesses:=(CD x k).1.guesses:Sc_ }=(CD x k).1:=k_
def Aee (x:Sb_):List SzI:=[.p x.host.size,.p x.path.size]
theorem AgF (x:Sb_) (h:Sh.good (.el .addr) x):F7 (Aee x):=by simp only[Aee,Sh.good,Sh.fc,enc,Qc9,Qe1,false_implies,implies_true,D6,F7,SzI.ok,maxLen] at *;grind
def Afz (x:Sb_):List ToI:=[]
def AiZ (x:Sb_) (z:Unit):Sb_:=⟨x.host,x.path⟩
theorem Aez (x:Sb_) (h:szAddr x<=1048576):F9 (Afz x):=by simp only[szAddr,Afz,F9,Qe0] at *<;>omega
def Y3 (x y:Sb_):List EqI:=[.s x.host y.host,.s x.path y.path]
theorem Aeu (x y:Sb_):x=y↔Dv (Y3 x y):=by cases x;cases y;simp[Y3,Dv,EqI.tru]
theorem Af7 (x y:Sb_) (h:szAddr x<=1125899906842624):F4 (Y3 x y):=by simp only[szAddr,Y3,F4,EqI.ok,Qe0,true_and] at *<;>omega
def AfM (x:Ss_):List SzI:=[.p x.name.size,.p x.value.size]
theorem Aed (x:Ss_) (h:Sh.good (.el .attr) x):F7 (AfM x):=by simp only[AfM,Sh.good,Sh.fc,enc,Qc9,Qe1,false_implies,implies_true,D6,F7,SzI.ok,maxLen] at *;grind
def Afs (x:Ss_):List ToI:=[]
def Ajs (x:Ss_) (z:Unit):Ss_:=⟨x.name,x.value⟩
theorem Afh (x:Ss_) (h:A3 x<=1048576):F9 (Afs x):=by simp only[A3,Afs,F9,Qe0] at *<;>omega
def XF (x y:Ss_):List EqI:=[.s x.name y.name,.s x.value y.value]
theorem Aew (x y:Ss_):x=y↔Dv (XF x y):=by cases x;cases y;simp[XF,Dv,EqI.tru]
theorem AeV (x y:Ss_) (h:A3 x<=1125899906842624):F4 (XF x y):=by simp only[A3,XF,F4,EqI.ok,Qe0,true_and] at *<;>omega
def Zy (x:Sh_):List SzI:=[.p x.name.size,.c (.sl .attr) (szL A3) x.bo,.p x.text.size]
theorem Acj (x:Sh_) (h:Sh.good (.el .token) x):F7 (Zy x):=by simp only[Zy,Sh.good,Sh.fc,enc,Qc9,Qe1,false_implies,implies_true,D6,F7,SzI.ok,maxLen] at *;grind
def Yg (x:Sh_):List ToI:=[⟨(.sl .attr),(szL A3),x.bo⟩]
def AhJ (x:Sh_) (z:(List Ss_)×Unit):Sh_:=⟨x.kind,x.name,z.1,x.text⟩
theorem Ada (x:Sh_) (h:szToken x<=1048576):F9 (Yg x):=by simp only[szToken,Yg,F9,Qe0] at *<;>omega
def Rb (x y:Sh_):List EqI:=[.i x.kind y.kind,.s x.name y.name,.c (.sl .attr) inferInstance (szL A3) x.bo y.bo,.s x.text y.text]
theorem Acm (x y:Sh_):x=y↔Dv (Rb x y):=by cases x;cases y;simp[Rb,Dv,EqI.tru]
theorem Ab0 (x y:Sh_) (h:szToken x<=1125899906842624):F4 (Rb x y):=by simp only[szToken,Rb,F4,EqI.ok,Qe0,true_and] at *<;>omega
def Jz (x:So_):List SzI:=[.p x.rest.size]
theorem QP (x:So_) (h:Sh.good (.el .tokenizer) x):F7 (Jz x):=by simp only[Jz,Sh.good,Sh.fc,enc,Qc9,Qe1,false_implies,implies_true,D6,F7,SzI.ok,maxLen] at *;grind
def Kc (x:So_):List ToI:=[]
def UV (x:So_) (z:Unit):So_:=⟨x.rest⟩
theorem PW (x:So_) (h:Bk x<=1048576):F9 (Kc x):=by simp only[Bk,Kc,F9,Qe0] at *<;>omega
def Gt (x y:So_):List EqI:=[.s x.rest y.rest]
theorem Qr (x y:So_):x=y↔Dv (Gt x y):=by cases x;cases y;simp[Gt,Dv,EqI.tru]
theorem QV (x y:So_) (h:Bk x<=1125899906842624):F4 (Gt x y):=by simp only[Bk,Gt,F4,EqI.ok,Qe0,true_and] at *<;>omega
def AgS (x:St_):List SzI:=[.p x.name.size,.p x.text.size,.c (.sl .attr) (szL A3) x.bo]
theorem Aey (x:St_) (h:Sh.good (.el .node) x):F7 (AgS x):=by simp only[AgS,Sh.good,Sh.fc,enc,Qc9,Qe1,false_implies,implies_true,D6,F7,SzI.ok,maxLen] at *;grind
def Afb (x:St_):List ToI:=[⟨(.sl .attr),(szL A3),x.bo⟩]
def AiK (x:St_) (z:(List Ss_)×Unit):St_:=⟨x.name,x.text,x.parent,z.1⟩
theorem Ae9 (x:St_) (h:szNode x<=1048576):F9 (Afb x):=by simp only[szNode,Afb,F9,Qe0] at *<;>omega
def YV (x y:St_):List EqI:=[.s x.name y.name,.s x.text y.text,.i x.parent y.parent,.c (.sl .attr) inferInstance (szL A3) x.bo y.bo]
theorem Ae4 (x y:St_):x=y↔Dv (YV x y):=by cases x;cases y;simp[YV,Dv,EqI.tru]
theorem AfD (x y:St_) (h:szNode x<=1125899906842624):F4 (YV x y):=by simp only[szNode,YV,F4,EqI.ok,Qe0,true_and] at *<;>omega
def OQ (x:Se_):List SzI:=[.c (.sl .node) (szL szNode) x.bi,.c (.sl .int) List.length x.bl]
theorem Wf (x:Se_) (h:Sh.good (.el .ba) x):F7 (OQ x):=by simp only[OQ,Sh.good,Sh.fc,enc,Qc9,Qe1,false_implies,implies_true,D6,F7,SzI.ok,maxLen] at *;grind
def OC (x:Se_):List ToI:=[⟨(.sl .node),(szL szNode),x.bi⟩,⟨(.sl .int),List.length,x.bl⟩]
def AcW (x:Se_) (z:(List St_)×(List Int)×Unit):Se_:=⟨z.1,z.2.1⟩
theorem Vg (x:Se_) (h:szBuilder x<=1048576):F9 (OC x):=by simp only[szBuilder,OC,F9,Qe0] at *<;>omega
def I1 (x y:Se_):List EqI:=[.c (.sl .node) inferInstance (szL szNode) x.bi y.bi,.c (.sl .int) inferInstance List.length x.bl y.bl]
theorem Vj (x y:Se_):x=y↔Dv (I1 x y):=by cases x;cases y;simp[I1,Dv,EqI.tru]
theorem Wa (x y:Se_) (h:szBuilder x<=1125899906842624):F4 (I1 x y):=by simp only[szBuilder,I1,F4,EqI.ok,Qe0,true_and] at *<;>omega
def RW (x:Si_):List SzI:=[.c (.sl .str) (szL Ad) x.bp,.c (.sl .str) (szL Ad) x.styles,.c (.sl .str) (szL Ad) x.images,.p x.nonce.size]
theorem ZD (x:Si_) (h:Sh.good (.el .bj) x):F7 (RW x):=by simp only[RW,Sh.good,Sh.fc,enc,Qc9,Qe1,false_implies,implies_true,D6,F7,SzI.ok,maxLen] at *;grind
def Rv (x:Si_):List ToI:=[⟨(.sl .str),(szL Ad),x.bp⟩,⟨(.sl .str),(szL Ad),x.styles⟩,⟨(.sl .str),(szL Ad),x.images⟩]
def Ag0 (x:Si_) (z:(List ByteArray)×(List ByteArray)×(List ByteArray)×Unit):Si_:=⟨x.set_,z.1,z.2.1,z.2.2.1,x.nonce⟩
theorem Y0 (x:Si_) (h:szPolicy x<=1048576):F9 (Rv x):=by simp only[szPolicy,Rv,F9,Qe0] at *<;>omega
def LQ (x y:Si_):List EqI:=[.b x.set_ y.set_,.c (.sl .str) inferInstance (szL Ad) x.bp y.bp,.c (.sl .str) inferInstance (szL Ad) x.styles y.styles,.c (.sl .str) inferInstance (szL Ad) x.images y.images,.s x.nonce y.nonce]
theorem Aad (x y:Si_):x=y↔Dv (LQ x y):=by cases x;cases y;simp[LQ,Dv,EqI.tru]
theorem Xm (x y:Si_) (h:szPolicy x<=1125899906842624):F4 (LQ x y):=by simp only[szPolicy,LQ,F4,EqI.ok,Qe0,true_and] at *<;>omega
def Ly (x:Sd_):List SzI:=[.p x.body.size,.p x.bj.size]
theorem R5 (x:Sd_) (h:Sh.good (.el .bd) x):F7 (Ly x):=by simp only[Ly,Sh.good,Sh.fc,enc,Qc9,Qe1,false_implies,implies_true,D6,F7,SzI.ok,maxLen] at *;grind
def Mz (x:Sd_):List ToI:=[]
def ZF (x:Sd_) (z:Unit):Sd_:=⟨x.status,x.kind,x.body,x.age,x.shares,x.bj⟩
theorem RV (x:Sd_) (h:Ae x<=1048576):F9 (Mz x):=by simp only[Ae,Mz,F9,Qe0] at *<;>omega
def Hh (x y:Sd_):List EqI:=[.i x.status y.status,.i x.kind y.kind,.s x.body y.body,.i x.age y.age,.b x.shares y.shares,.s x.bj y.bj]
theorem RQ (x y:Sd_):x=y↔Dv (Hh x y):=by cases x;cases y;simp[Hh,Dv,EqI.tru]
theorem Sb (x y:Sd_) (h:Ae x<=1125899906842624):F4 (Hh x y):=by simp only[Ae,Hh,F4,EqI.ok,Qe0,true_and] at *<;>omega
def AeL (x:Sv_):List SzI:=[.p x.path.size,.c (.el .bd) Ae x.bd]
theorem AfH (x:Sv_) (h:Sh.good (.el .file) x):F7 (AeL x):=by simp only[AeL,Sh.good,Sh.fc,enc,Qc9,Qe1,false_implies,implies_true,D6,F7,SzI.ok,maxLen] at *;grind
def Af1 (x:Sv_):List ToI:=[⟨(.el .bd),Ae,x.bd⟩]
def Ai7 (x:Sv_) (z:Sd_×Unit):Sv_:=⟨x.path,z.1⟩
theorem AgA (x:Sv_) (h:Ez x<=1048576):F9 (Af1 x):=by simp only[Ez,Af1,F9,Qe0] at *<;>omega
def XU (x y:Sv_):List EqI:=[.s x.path y.path,.c (.el .bd) inferInstance Ae x.bd y.bd]
theorem AgP (x y:Sv_):x=y↔Dv (XU x y):=by cases x;cases y;simp[XU,Dv,EqI.tru]
theorem AeS (x y:Sv_) (h:Ez x<=1125899906842624):F4 (XU x y):=by simp only[Ez,XU,F4,EqI.ok,Qe0,true_and] at *<;>omega
def Ro (x:Sk_):List SzI:=[.p x.host.size,.c (.sl .file) (szL Ez) x.files]
theorem YD (x:Sk_) (h:Sh.good (.el .server) x):F7 (Ro x):=by simp only[Ro,Sh.good,Sh.fc,enc,Qc9,Qe1,false_implies,implies_true,D6,F7,SzI.ok,maxLen] at *;grind
def Sg (x:Sk_):List ToI:=[⟨(.sl .file),(szL Ez),x.files⟩]
def Agh (x:Sk_) (z:(List Sv_)×Unit):Sk_:=⟨x.host,z.1⟩
theorem YS (x:Sk_) (h:AR x<=1048576):F9 (Sg x):=by simp only[AR,Sg,F9,Qe0] at *<;>omega
def Li (x y:Sk_):List EqI:=[.s x.host y.host,.c (.sl .file) inferInstance (szL Ez) x.files y.files]
theorem WS (x y:Sk_):x=y↔Dv (Li x y):=by cases x;cases y;simp[Li,Dv,EqI.tru]
theorem W2 (x y:Sk_) (h:AR x<=1125899906842624):F4 (Li x y):=by simp only[AR,Li,F4,EqI.ok,Qe0,true_and] at *<;>omega
def XD (x:Sq_):List SzI:=[.p x.top.size,.c (.el .addr) szAddr x.to,.c (.el .bd) Ae x.bd]
theorem AcT (x:Sq_) (h:Sh.good (.el .entry) x):F7 (XD x):=by simp only[XD,Sh.good,Sh.fc,enc,Qc9,Qe1,false_implies,implies_true,D6,F7,SzI.ok,maxLen] at *;grind
def Xd (x:Sq_):List ToI:=[⟨(.el .addr),szAddr,x.to⟩,⟨(.el .bd),Ae,x.bd⟩]
def Aid (x:Sq_) (z:Sb_×Sd_×Unit):Sq_:=⟨x.top,z.1,z.2.1,x.until_⟩
theorem Ado (x:Sq_) (h:AE x<=1048576):F9 (Xd x):=by simp only[AE,Xd,F9,Qe0] at *<;>omega
def Q3 (x y:Sq_):List EqI:=[.s x.top y.top,.c (.el .addr) inferInstance szAddr x.to y.to,.c (.el .bd) inferInstance Ae x.bd y.bd,.i x.until_ y.until_]
theorem Adl (x y:Sq_):x=y↔Dv (Q3 x y):=by cases x;cases y;simp[Q3,Dv,EqI.tru]
theorem Abe (x y:Sq_) (h:AE x<=1125899906842624):F4 (Q3 x y):=by simp only[AE,Q3,F4,EqI.ok,Qe0,true_and] at *<;>omega
def YW (x:Sl_):List SzI:=[.c (.sl .entry) (szL AE) x.bg]
theorem AaH (x:Sl_) (h:Sh.good (.el .cache) x):F7 (YW x):=by simp only[YW,Sh.good,Sh.fc,enc,Qc9,Qe1,false_implies,implies_true,D6,F7,SzI.ok,maxLen] at *;grind
def ZV (x:Sl_):List ToI:=[⟨(.sl .entry),(szL AE),x.bg⟩]
def AhN (x:Sl_) (z:(List Sq_)×Unit):Sl_:=⟨z.1⟩
theorem Abn (x:Sl_) (h:szCache x<=1048576):F9 (ZV x):=by simp only[szCache,ZV,F9,Qe0] at *<;>omega
def PE (x y:Sl_):List EqI:=[.c (.sl .entry) inferInstance (szL AE) x.bg y.bg]
theorem Acq (x y:Sl_):x=y↔Dv (PE x y):=by cases x;cases y;simp[PE,Dv,EqI.tru]
theorem AbX (x y:Sl_) (h:szCache x<=1125899906842624):F4 (PE x y):=by simp only[szCache,PE,F4,EqI.ok,Qe0,true_and] at *<;>omega
def Ad9 (x:Sw_):List SzI:=[.p x.top.size,.c (.el .addr) szAddr x.to]
theorem Agn (x:Sw_) (h:Sh.good (.el .sent) x):F7 (Ad9 x):=by simp only[Ad9,Sh.good,Sh.fc,enc,Qc9,Qe1,false_implies,implies_true,D6,F7,SzI.ok,maxLen] at *;grind
def Aen (x:Sw_):List ToI:=[⟨(.el .addr),szAddr,x.to⟩]
def Ajl (x:Sw_) (z:Sb_×Unit):Sw_:=⟨x.top,z.1,x.guess⟩
theorem Aeq (x:Sw_) (h:DM x<=1048576):F9 (Aen x):=by simp only[DM,Aen,F9,Qe0] at *<;>omega
def Yj (x y:Sw_):List EqI:=[.s x.top y.top,.c (.el .addr) inferInstance szAddr x.to y.to,.b x.guess y.guess]
theorem Ags (x y:Sw_):x=y↔Dv (Yj x y):=by cases x;cases y;simp[Yj,Dv,EqI.tru]
theorem AfJ (x y:Sw_) (h:DM x<=1125899906842624):F4 (Yj x y):=by simp only[DM,Yj,F4,EqI.ok,Qe0,true_and] at *<;>omega
def Ai1 (x:Su_):List SzI:=[.c (.sl .server) (szL AR) x.servers,.c (.el .cache) szCache x.cache,.c (.sl .sent) (szL DM) x.log]
theorem Aiq (x:Su_) (h:Sh.good (.el .net) x):F7 (Ai1 x):=by simp only[Ai1,Sh.good,Sh.fc,enc,Qc9,Qe1,false_implies,implies_true,D6,F7,SzI.ok,maxLen] at *;grind
def Ai3 (x:Su_):List ToI:=[⟨(.sl .server),(szL AR),x.servers⟩,⟨(.el .cache),szCache,x.cache⟩,⟨(.sl .sent),(szL DM),x.log⟩]
def Apa (x:Su_) (z:(List Sk_)×Sl_×(List Sw_)×Unit):Su_:=⟨z.1,z.2.1,z.2.2.1,x.now⟩
theorem Ah3 (x:Su_) (h:szNet x<=1048576):F9 (Ai3 x):=by simp only[szNet,Ai3,F9,Qe0] at *<;>omega
def AhE (x y:Su_):List EqI:=[.c (.sl .server) inferInstance (szL AR) x.servers y.servers,.c (.el .cache) inferInstance szCache x.cache y.cache,.c (.sl .sent) inferInstance (szL DM) x.log y.log,.i x.now y.now]
theorem AhZ (x y:Su_):x=y↔Dv (AhE x y):=by cases x;cases y;simp[AhE,Dv,EqI.tru]
theorem AhH (x y:Su_) (h:szNet x<=1125899906842624):F4 (AhE x y):=by simp only[szNet,AhE,F4,EqI.ok,Qe0,true_and] at *<;>omega
def Af9 (x:Sp_):List SzI:=[.c (.el .addr) szAddr x.to,.p x.digest.size,.p x.body.size]
theorem AeW (x:Sp_) (h:Sh.good (.el .slot) x):F7 (Af9 x):=by simp only[Af9,Sh.good,Sh.fc,enc,Qc9,Qe1,false_implies,implies_true,D6,F7,SzI.ok,maxLen] at *;grind
def Aeh (x:Sp_):List ToI:=[⟨(.el .addr),szAddr,x.to⟩]
def Ajk (x:Sp_) (z:Sb_×Unit):Sp_:=⟨x.mode,z.1,x.digest,x.node,x.done,x.code,x.body⟩
theorem Afi (x:Sp_) (h:AA x<=1048576):F9 (Aeh x):=by simp only[AA,Aeh,F9,Qe0] at *<;>omega
def Y4 (x y:Sp_):List EqI:=[.i x.mode y.mode,.c (.el .addr) inferInstance szAddr x.to y.to,.s x.digest y.digest,.i x.node y.node,.b x.done y.done,.i x.code y.code,.s x.body y.body]
theorem Agq (x y:Sp_):x=y↔Dv (Y4 x y):=by cases x;cases y;simp[Y4,Dv,EqI.tru]
theorem AeD (x y:Sp_) (h:AA x<=1125899906842624):F4 (Y4 x y):=by simp only[AA,Y4,F4,EqI.ok,Qe0,true_and] at *<;>omega
def SW (x:Sg_):List SzI:=[.c (.el .addr) szAddr x.to,.p x.body.size]
theorem XA (x:Sg_) (h:Sh.good (.el .module) x):F7 (SW x):=by simp only[SW,Sh.good,Sh.fc,enc,Qc9,Qe1,false_implies,implies_true,D6,F7,SzI.ok,maxLen] at *;grind
def SS (x:Sg_):List ToI:=[⟨(.el .addr),szAddr,x.to⟩]
def Agj (x:Sg_) (z:Sb_×Unit):Sg_:=⟨z.1,x.done,x.code,x.body⟩
theorem Xe (x:Sg_) (h:Aj x<=1048576):F9 (SS x):=by simp only[Aj,SS,F9,Qe0] at *<;>omega
def L3 (x y:Sg_):List EqI:=[.c (.el .addr) inferInstance szAddr x.to y.to,.b x.done y.done,.i x.code y.code,.s x.body y.body]
theorem XQ (x y:Sg_):x=y↔Dv (L3 x y):=by cases x;cases y;simp[L3,Dv,EqI.tru]
theorem XK (x y:Sg_) (h:Aj x<=1125899906842624):F4 (L3 x y):=by simp only[Aj,L3,F4,EqI.ok,Qe0,true_and] at *<;>omega
def AfF (x:Sa_):List SzI:=[.c (.el .addr) szAddr x.addr,.c (.el .bj) szPolicy x.bj,.c (.el .tokenizer) Bk x.tok,.c (.sl .token) (szL szToken) x.bn,.c (.el .ba) szBuilder x.ba,.c (.sl .slot) (szL AA) x.bf,.c (.sl .module) (szL Aj) x.bh,.c (.sl .addr) (szL szAddr) x.bg,.c (.sl .addr) (szL szAddr) x.ran,.c (.sl .str) (szL Ad) x.log]
theorem Ag2 (x:Sa_) (h:Sh.good (.el .page) x):F7 (AfF x):=by simp only[AfF,Sh.good,Sh.fc,enc,Qc9,Qe1,false_implies,implies_true,D6,F7,SzI.ok,maxLen] at *;grind
def AeC (x:Sa_):List ToI:=[⟨(.el .addr),szAddr,x.addr⟩,⟨(.el .bj),szPolicy,x.bj⟩,⟨(.el .tokenizer),Bk,x.tok⟩,⟨(.sl .token),(szL szToken),x.bn⟩,⟨(.el .ba),szBuilder,x.ba⟩,⟨(.sl .slot),(szL AA),x.bf⟩,⟨(.sl .module),(szL Aj),x.bh⟩,⟨(.sl .addr),(szL szAddr),x.bg⟩,⟨(.sl .addr),(szL szAddr),x.ran⟩,⟨(.sl .str),(szL Ad),x.log⟩]
def AiT (x:Sa_) (z:Sb_×Si_×So_×(List Sh_)×Se_×(List Sp_)×(List Sg_)×(List Sb_)×(List Sb_)×(List ByteArray)×Unit):Sa_:=⟨z.1,z.2.1,z.2.2.1,z.2.2.2.1,x.ended,z.2.2.2.2.1,z.2.2.2.2.2.1,z.2.2.2.2.2.2.1,z.2.2.2.2.2.2.2.1,x.block,x.inline,x.bm,x.bq,z.2.2.2.2.2.2.2.2.1,z.2.2.2.2.2.2.2.2.2.1,x.loaded⟩
theorem Aef (x:Sa_) (h:szPage x<=1048576):F9 (AeC x):=by simp only[szPage,AeC,F9,Qe0] at *<;>omega
def WP (x y:Sa_):List EqI:=[.c (.el .addr) inferInstance szAddr x.addr y.addr,.c (.el .bj) inferInstance szPolicy x.bj y.bj,.c (.el .tokenizer) inferInstance Bk x.tok y.tok,.c (.sl .token) inferInstance (szL szToken) x.bn y.bn,.b x.ended y.ended,.c (.el .ba) inferInstance szBuilder x.ba y.ba,.c (.sl .slot) inferInstance (szL AA) x.bf y.bf,.c (.sl .module) inferInstance (szL Aj) x.bh y.bh,.c (.sl .addr) inferInstance (szL szAddr) x.bg y.bg,.i x.block y.block,.i x.inline y.inline,.i x.bm y.bm,.i x.bq y.bq,.c (.sl .addr) inferInstance (szL szAddr) x.ran y.ran,.c (.sl .str) inferInstance (szL Ad) x.log y.log,.b x.loaded y.loaded]
theorem Aes (x y:Sa_):x=y↔Dv (WP x y):=by cases x;cases y;simp[WP,Dv,EqI.tru]
theorem Afu (x y:Sa_) (h:szPage x<=1125899906842624):F4 (WP x y):=by simp only[szPage,WP,F4,EqI.ok,Qe0,true_and] at *<;>omega
def YY (x:Sm_):List SzI:=[.c (.el .addr) szAddr x.to,.c (.el .bd) Ae x.bd]
theorem Ac9 (x:Sm_) (h:Sh.good (.el .guess) x):F7 (YY x):=by simp only[YY,Sh.good,Sh.fc,enc,Qc9,Qe1,false_implies,implies_true,D6,F7,SzI.ok,maxLen] at *;grind
def Yh (x:Sm_):List ToI:=[⟨(.el .addr),szAddr,x.to⟩,⟨(.el .bd),Ae,x.bd⟩]
def AhC (x:Sm_) (z:Sb_×Sd_×Unit):Sm_:=⟨z.1,z.2.1,x.used⟩
theorem AbJ (x:Sm_) (h:Bj x<=1048576):F9 (Yh x):=by simp only[Bj,Yh,F9,Qe0] at *<;>omega
def Q9 (x y:Sm_):List EqI:=[.c (.el .addr) inferInstance szAddr x.to y.to,.c (.el .bd) inferInstance Ae x.bd y.bd,.b x.used y.used]
theorem Adp (x y:Sm_):x=y↔Dv (Q9 x y):=by cases x;cases y;simp[Q9,Dv,EqI.tru]
theorem Ac1 (x y:Sm_) (h:Bj x<=1125899906842624):F4 (Q9 x y):=by simp only[Bj,Q9,F4,EqI.ok,Qe0,true_and] at *<;>omega
def Aga (x:Sj_):List SzI:=[.c (.el .addr) szAddr x.to,.c (.el .bd) Ae x.bd]
theorem Agi (x:Sj_) (h:Sh.good (.el .conn) x):F7 (Aga x):=by simp only[Aga,Sh.good,Sh.fc,enc,Qc9,Qe1,false_implies,implies_true,D6,F7,SzI.ok,maxLen] at *;grind
def Aer (x:Sj_):List ToI:=[⟨(.el .addr),szAddr,x.to⟩,⟨(.el .bd),Ae,x.bd⟩]
def AiQ (x:Sj_) (z:Sb_×Sd_×Unit):Sj_:=⟨z.1,x.left,x.guess,z.2.1⟩
theorem AeK (x:Sj_) (h:Bl x<=1048576):F9 (Aer x):=by simp only[Bl,Aer,F9,Qe0] at *<;>omega
def Zv (x y:Sj_):List EqI:=[.c (.el .addr) inferInstance szAddr x.to y.to,.i x.left y.left,.b x.guess y.guess,.c (.el .bd) inferInstance Ae x.bd y.bd]
theorem AeF (x y:Sj_):x=y↔Dv (Zv x y):=by cases x;cases y;simp[Zv,Dv,EqI.tru]
theorem AfN (x y:Sj_) (h:Bl x<=1125899906842624):F4 (Zv x y):=by simp only[Bl,Zv,F4,EqI.ok,Qe0,true_and] at *<;>omega
def SZ (x:Sc_):List SzI:=[.c (.el .net) szNet x.net,.c (.el .page) szPage x.page,.c (.sl .str) (szL Ad) x.parts,.c (.sl .conn) (szL Bl) x.conns,.c (.sl .guess) (szL Bj) x.guesses]
theorem Yy (x:Sc_) (h:Sh.good (.el .loader) x):F7 (SZ x):=by simp only[SZ,Sh.good,Sh.fc,enc,Qc9,Qe1,false_implies,implies_true,D6,F7,SzI.ok,maxLen] at *;grind
def Rq (x:Sc_):List ToI:=[⟨(.el .net),szNet,x.net⟩,⟨(.el .page),szPage,x.page⟩,⟨(.sl .str),(szL Ad),x.parts⟩,⟨(.sl .conn),(szL Bl),x.conns⟩,⟨(.sl .guess),(szL Bj),x.guesses⟩]
def Afd (x:Sc_) (z:Su_×Sa_×(List ByteArray)×(List Sj_)×(List Sm_)×Unit):Sc_:=⟨z.1,z.2.1,z.2.2.1,z.2.2.2.1,z.2.2.2.2.1⟩
theorem Yp (x:Sc_) (h:AD x<=1048576):F9 (Rq x):=by simp only[AD,Rq,F9,Qe0] at *<;>omega
def LM (x y:Sc_):List EqI:=[.c (.el .net) inferInstance szNet x.net y.net,.c (.el .page) inferInstance szPage x.page y.page,.c (.sl .str) inferInstance (szL Ad) x.parts y.parts,.c (.sl .conn) inferInstance (szL Bl) x.conns y.conns,.c (.sl .guess) inferInstance (szL Bj) x.guesses y.guesses]
theorem WC (x y:Sc_):x=y↔Dv (LM x y):=by cases x;cases y;simp[LM,Dv,EqI.tru]
theorem XT (x y:Sc_) (h:AD x<=1125899906842624):F4 (LM x y):=by simp only[AD,LM,F4,EqI.ok,Qe0,true_and] at *<;>omega
def Gj:Fct:=szF (.sl .str) (szL Ad)
def Jv:Fct:=toF (.sl .str) (szL Ad)
def Gp:Fct:=eqF (.sl .str) (szL Ad)
def Qn:MS:=mkF (.sl .str) (Aq FU)
def QF:Fct:=heF (.sl .str) (Aq FU)
def OH:Fct:=szF (.sl .int) List.length
def SO:Fct:=toF (.sl .int) List.length
def K1:Fct:=eqF (.sl .int) List.length
def Z4:MS:=mkF (.sl .int) (Aq AcF)
def YQ:Fct:=heF (.sl .int) (Aq AcF)
def AaI:Fct:=szF (.sl .addr) (szL szAddr)
def AcS:Fct:=toF (.sl .addr) (szL szAddr)
def Ade:Fct:=eqF (.sl .addr) (szL szAddr)
def V1:MS:=mkF (.sl .addr) (Aq Rg)
def U3:Fct:=heF (.sl .addr) (Aq Rg)
def AfI:Fct:=szF (.el .addr) szAddr
def AeP:Fct:=toF (.el .addr) szAddr
def Ad7:Fct:=eqF (.el .addr) szAddr
def AcU:Fct:=szF (.sl .attr) (szL A3)
def AaW:Fct:=toF (.sl .attr) (szL A3)
def Aa1:Fct:=eqF (.sl .attr) (szL A3)
def VX:MS:=mkF (.sl .attr) (Aq QI)
def VG:Fct:=heF (.sl .attr) (Aq QI)
def Af4:Fct:=szF (.el .attr) A3
def AfX:Fct:=toF (.el .attr) A3
def Aej:Fct:=eqF (.el .attr) A3
def XY:Fct:=szF (.sl .token) (szL szToken)
def Z7:Fct:=toF (.sl .token) (szL szToken)
def ZH:Fct:=eqF (.sl .token) (szL szToken)
def R8:MS:=mkF (.sl .token) (Aq OU)
def R9:Fct:=heF (.sl .token) (Aq OU)
def AcD:Fct:=szF (.el .token) szToken
def Adc:Fct:=toF (.el .token) szToken
def Abt:Fct:=eqF (.el .token) szToken
def PC:Fct:=szF (.el .tokenizer) Bk
def Ri:Fct:=toF (.el .tokenizer) Bk
def Ra:Fct:=eqF (.el .tokenizer) Bk
def Acf:Fct:=szF (.sl .node) (szL szNode)
def Abj:Fct:=toF (.sl .node) (szL szNode)
def AcQ:Fct:=eqF (.sl .node) (szL szNode)
def Wr:MS:=mkF (.sl .node) (Aq Ut)
def Vu:Fct:=heF (.sl .node) (Aq Ut)
def Ae0:Fct:=szF (.el .node) szNode
def Afn:Fct:=toF (.el .node) szNode
def Afr:Fct:=eqF (.el .node) szNode
def UL:Fct:=szF (.el .ba) szBuilder
def U1:Fct:=toF (.el .ba) szBuilder
def UT:Fct:=eqF (.el .ba) szBuilder
def P8:MS:=mkF (.el .ba) Jh
def Qi:Fct:=heF (.el .ba) Jh
def YG:Fct:=szF (.el .bj) szPolicy
def X4:Fct:=toF (.el .bj) szPolicy
def WB:Fct:=eqF (.el .bj) szPolicy
def SC:MS:=mkF (.el .bj) KK
def SF:Fct:=heF (.el .bj) KK
def S2:Fct:=szF (.el .bd) Ae
def RB:Fct:=toF (.el .bd) Ae
def RM:Fct:=eqF (.el .bd) Ae
def Aca:Fct:=szF (.sl .file) (szL Ez)
def AaE:Fct:=toF (.sl .file) (szL Ez)
def Adj:Fct:=eqF (.sl .file) (szL Ez)
def Vc:MS:=mkF (.sl .file) (Aq To)
def U4:Fct:=heF (.sl .file) (Aq To)
def Aet:Fct:=szF (.el .file) Ez
def Ago:Fct:=toF (.el .file) Ez
def Agu:Fct:=eqF (.el .file) Ez
def V3:Fct:=szF (.sl .server) (szL AR)
def Vx:Fct:=toF (.sl .server) (szL AR)
def VD:Fct:=eqF (.sl .server) (szL AR)
def PQ:MS:=mkF (.sl .server) (Aq KV)
def Qq:Fct:=heF (.sl .server) (Aq KV)
def XR:Fct:=szF (.el .server) AR
def Z5:Fct:=toF (.el .server) AR
def Xy:Fct:=eqF (.el .server) AR
def Yu:Fct:=szF (.sl .entry) (szL AE)
def Xo:Fct:=toF (.sl .entry) (szL AE)
def Zk:Fct:=eqF (.sl .entry) (szL AE)
def Ry:MS:=mkF (.sl .entry) (Aq N1)
def Rl:Fct:=heF (.sl .entry) (Aq N1)
def Acy:Fct:=szF (.el .entry) AE
def Abc:Fct:=toF (.el .entry) AE
def AcM:Fct:=eqF (.el .entry) AE
def AbY:Fct:=szF (.el .cache) szCache
def Ac8:Fct:=toF (.el .cache) szCache
def Ac5:Fct:=eqF (.el .cache) szCache
def Wj:MS:=mkF (.el .cache) O5
def Wb:Fct:=heF (.el .cache) O5
def AcA:Fct:=szF (.sl .sent) (szL DM)
def AcN:Fct:=toF (.sl .sent) (szL DM)
def Acu:Fct:=eqF (.sl .sent) (szL DM)
def US:MS:=mkF (.sl .sent) (Aq T6)
def VU:Fct:=heF (.sl .sent) (Aq T6)
def Aha:Fct:=szF (.el .sent) DM
def Afc:Fct:=toF (.el .sent) DM
def Ahc:Fct:=eqF (.el .sent) DM
def Aio:Fct:=szF (.el .net) szNet
def AhD:Fct:=toF (.el .net) szNet
def Ah0:Fct:=eqF (.el .net) szNet
def AcK:MS:=mkF (.el .net) Adb
def AaZ:Fct:=heF (.el .net) Adb
def AaO:Fct:=szF (.sl .slot) (szL AA)
def Acx:Fct:=toF (.sl .slot) (szL AA)
def AbZ:Fct:=eqF (.sl .slot) (szL AA)
def Wo:MS:=mkF (.sl .slot) (Aq Tl)
def Wh:Fct:=heF (.sl .slot) (Aq Tl)
def AfB:Fct:=szF (.el .slot) AA
def Ae3:Fct:=toF (.el .slot) AA
def AgN:Fct:=eqF (.el .slot) AA
def UN:Fct:=szF (.sl .module) (szL Aj)
def VF:Fct:=toF (.sl .module) (szL Aj)
def V9:Fct:=eqF (.sl .module) (szL Aj)
def QD:MS:=mkF (.sl .module) (Aq KT)
def Qv:Fct:=heF (.sl .module) (Aq KT)
def WA:Fct:=szF (.el .module) Aj
def Xq:Fct:=toF (.el .module) Aj
def WZ:Fct:=eqF (.el .module) Aj
def Ag6:Fct:=szF (.el .page) szPage
def AfS:Fct:=toF (.el .page) szPage
def AgL:Fct:=eqF (.el .page) szPage
def Yx:MS:=mkF (.el .page) Ub
def W8:Fct:=heF (.el .page) Ub
def ZG:Fct:=szF (.sl .guess) (szL Bj)
def WL:Fct:=toF (.sl .guess) (szL Bj)
def XX:Fct:=eqF (.sl .guess) (szL Bj)
def SV:MS:=mkF (.sl .guess) (Aq N5)
def Sa:Fct:=heF (.sl .guess) (Aq N5)
def Ab4:Fct:=szF (.el .guess) Bj
def AaL:Fct:=toF (.el .guess) Bj
def Ac4:Fct:=eqF (.el .guess) Bj
def Acn:Fct:=szF (.sl .conn) (szL Bl)
def AaN:Fct:=toF (.sl .conn) (szL Bl)
def Acb:Fct:=eqF (.sl .conn) (szL Bl)
def U8:MS:=mkF (.sl .conn) (Aq T3)
def Vw:Fct:=heF (.sl .conn) (Aq T3)
def Af5:Fct:=szF (.el .conn) Bl
def Agz:Fct:=toF (.el .conn) Bl
def AgX:Fct:=eqF (.el .conn) Bl
def Lr:Fct:=szF (.el .loader) AD
def Gf:Fct:=toF (.el .loader) AD
def GA:Fct:=eqF (.el .loader) AD
def EP:MS:=mkF (.el .loader) CD
def GI:Fct:=heF (.el .loader) CD
end Go.D
namespace Go.D
theorem AnW:(∀ x:Sh_,(⟨x.kind,x.name,x.bo,x.text⟩:Sh_)=x)/\(∀ x:St_,(⟨x.name,x.text,x.parent,x.bo⟩:St_)=x)/\(∀ x:Se_,(⟨x.bi,x.bl⟩:Se_)=x)/\(∀ x:Si_,(⟨x.set_,x.bp,x.styles,x.images,x.nonce⟩:Si_)=x)/\(∀ x:Sa_,(⟨x.addr,x.bj,x.tok,x.bn,x.ended,x.ba,x.bf,x.bh,x.bg,x.block,x.inline,x.bm,x.bq,x.ran,x.log,x.loaded⟩:Sa_)=x)/\(∀ x:Sz_,(⟨x.addr,x.page,x.kept⟩:Sz_)=x)/\(∀ x:SB_,(⟨x.visits,x.at_⟩:SB_)=x)/\(∀ x:Sk_,(⟨x.host,x.files⟩:Sk_)=x)/\(∀ x:Sl_,(⟨x.bg⟩:Sl_)=x)/\(∀ x:Su_,(⟨x.servers,x.cache,x.log,x.now⟩:Su_)=x)/\(∀ x:Sc_,(⟨x.net,x.page,x.parts,x.conns,x.guesses⟩:Sc_)=x)/\(∀ x:Sn_,(⟨x.rules⟩:Sn_)=x)/\(∀ x:Sy_,(⟨x.ba,x.log,x.verdicts,x.sheet,x.loaded⟩:Sy_)=x)/\(∀ x:Sp_,(⟨x.mode,x.to,x.digest,x.node,x.done,x.code,x.body⟩:Sp_)=x)/\(∀ x:Sg_,(⟨x.to,x.done,x.code,x.body⟩:Sg_)=x)/\(∀ x:Sb_,(⟨x.host,x.path⟩:Sb_)=x)/\(∀ x:Sf_,(⟨x.kind,x.to,x.from_,x.digest⟩:Sf_)=x)/\(∀ x:Sd_,(⟨x.status,x.kind,x.body,x.age,x.shares,x.bj⟩:Sd_)=x)/\(∀ x:Sj_,(⟨x.to,x.left,x.guess,x.bd⟩:Sj_)=x)/\(∀ x:Sm_,(⟨x.to,x.bd,x.used⟩:Sm_)=x)/\(∀ x:Sq_,(⟨x.top,x.to,x.bd,x.until_⟩:Sq_)=x)/\(∀ x:Sw_,(⟨x.top,x.to,x.guess⟩:Sw_)=x)/\(∀ x:Sv_,(⟨x.path,x.bd⟩:Sv_)=x) :=
 ⟨AbR,Ag5,VP,Xn,Ag8,AcY,Aij,Y1,AcJ,Ahs,Xv,AcV,ZN,AeQ,Aai,AfL,Vf,RH,AgH,Aa7,Aa5,AgT,Afm⟩
theorem std:(type_of% @AnW)/\(type_of% @Ahd)/\(type_of% @Aix)/\∀ {α:Type} (a b:α),(a≠b) = ¬a=b:=⟨AnW,Ahd,Aix,λ_ _=>rfl⟩
def KP (a b:List Nat):List Nat:=a++(b++b.map (· + 1000000))
def lv:List (Nat×LInv)->VR
 | [],_=>none
 | (m,x)::r,n=>bif n==m then some x else lv r n
theorem Fct.p {S:Fct} {P:Program} {E:Env} {f:Nat} {fn:Func} (kp:List Nat) (L:As S.as->VR) (hE:EOk P E) (hf:P.funcs[f]? = some fn)
 (hh:∀ x,S.pre x->HoldsE (F5 P E (L x) kp [] fn (S.arg x)) (S.ctr x).post) (hc:(fn.body.isSome&&decide (S.as.length<=fn.ntmps))=true:=by kernel_rfl):S.ok P f:=by
 rw[Qa1] at hc;exact Fct.of (L:=L) hE hf hc.1 hc.2 hh
end Go.D
namespace Go.D
set_option linter.unusedSectionVars false
section
variable {α:Type} [DecidableEq α] [Inhabited α]
def W3:List α->List α
 | []=>[]
 | [a]=>[a]
 | a::b::l=>if a=b then W3 (b::l) else a::W3 (b::l)
structure CompInv (s d:List α) (k0 k k2:Int):Prop where
 c2:1<=k2
 c0:1<=k0
 le:k0+k2<=s.length
 lo:k0<=k
 hi:k<k0+k2
 len:d.length=s.length
 dr:d.drop k.toNat=s.drop k.toNat
 tk:d.take k.toNat=W3 (s.take (k0+k2).toNat)
theorem Kw {s d:List α} {k i:Nat} (h:d.drop k=s.drop k) (hi:k<=i):d.getD i default=s.getD i default:=by
 have h1:(d.drop k)[i-k]? = (s.drop k)[i-k]?:=by rw[h]
 grind
theorem CompInv.at_ {s d:List α} {k0 k k2:Int} (h:CompInv s d k0 k k2) (hlt:k0+k2<s.length) :
 d.getD (k0.toNat+k2.toNat) default=s.getD (k0+k2).toNat default/\d.getD (k0.toNat+(k2-1).toNat) default=s.getD ((k0+k2).toNat-1) default:=by
 obtain⟨a,b,c,e,f,g,i,j⟩:=h;refine⟨?_,?_⟩
 ·rw[Kw i o_];congr 1;omega
 ·rw[Kw i o_];congr 1;omega
end
theorem Ii {α:Type} (xs ys:List α) (e:Nat):(JB xs e ys).length=min e xs.length+ys.length+(xs.length-(e+ys.length)):=by simp[JB];omega
theorem JR {α:Type} (xs:List α) (a n:Nat):(cut xs a n).length=min n (xs.length-a):=by simp[cut]
theorem Adk {α:Type} (xs ys:List α) (k:Nat) (h:k<=xs.length):cut (JB xs k ys) 0 k=xs.take k:=by
 simp[cut,JB,Qc1,Nat.min_eq_left h]
theorem WJ {α:Type} {l:List α} {i j m:Nat} (hj:j<=l.length) (hi:i<=j) (hm:m=l.length-j):(JB l i (cut l j m)).take (i+m)=l.take i++l.drop j:=by
 have h1:cut l j m=l.drop j:=by simp[cut,hm,Qb1]
 rw[h1];have h2:(l.take i++l.drop j).length=i+m:=by simp;omega
 simp only[JB];grind
end Go.D
namespace Go.D
open Go.Lib Go.Sort
def AbN (a b:ByteArray):Int:=compareBytes a.data.toList b.data.toList
theorem AaF:∀ l m:List UInt8,compareBytes l m = -1\/compareBytes l m=0\/compareBytes l m=1:=by
 intro l
 induction l with
 | nil=>intro m;cases m<;>simp[compareBytes]
 | cons a l ih=>
  intro m;cases m with
  | nil=>simp[compareBytes]
  | cons b m=>
   simp only[compareBytes];grind
theorem Aip:∀ {l m:List UInt8},compareBytes l m=0↔l=m:=by
 intro l
 induction l with
 | nil=>intro m;cases m<;>simp[compareBytes]
 | cons a l ih=>
  intro m;cases m with
  | nil=>simp[compareBytes]
  | cons b m=>
   simp only[compareBytes,List.cons.injEq];grind
theorem Afk:∀ {l m:List UInt8},Op.bytesLess l m=decide (compareBytes l m<0):=by
 intro l
 induction l with
 | nil=>intro m;cases m<;>simp[Op.bytesLess,compareBytes]
 | cons a l ih=>
  intro m;cases m with
  | nil=>simp[Op.bytesLess,compareBytes]
  | cons b m=>
   simp only[Op.bytesLess,compareBytes,ih];grind
theorem Y8 (a b:ByteArray):Op.bytesLess a.toList b.toList=decide (AbN a b<0):=by
 rw[Afk,Lib.toList_data,Lib.toList_data];rfl
theorem AhW {a b:ByteArray} (h:a.data.toList=b.data.toList):a=b:=by
 cases a;cases b;simpa using Array.toList_inj.1 h
theorem Mw {a b:ByteArray}:AbN a b=0↔a=b:=⟨λh=>AhW (Aip.1 h),λh=>Aip.2 (by rw[h])⟩
theorem JW (a b:ByteArray):AbN a b = -1\/AbN a b=0\/AbN a b=1:=AaF _ _
def fCmpStr:Fct:=⟨[aT,aT],[rI],λ_=>True,λx=>(AbN x.1 x.2.1,())⟩
def cmpA (a b:Sb_):Int:=if AbN a.host b.host=0 then AbN a.path b.path else AbN a.host b.host
theorem U7 (a b:Sb_):cmpA a b = -1\/cmpA a b=0\/cmpA a b=1:=by unfold cmpA;split<;>exact JW _ _
theorem AfZ {a b:Sb_}:cmpA a b=0↔a=b:=by
 obtain⟨h,p⟩:=a;obtain⟨h',p'⟩:=b;simp only[cmpA,Sb_.mk.injEq];split
 ·rename_i e;rw[Mw,Mw.1 e];simp
 ·rename_i e;constructor
  ·omega
  ·rintro⟨rfl,_⟩;exact absurd (Mw.2 rfl) e
end Go.D
namespace Go.D
def Ic (n:Int):ByteArray:=⟨(Lib.itoa n).toArray⟩
def Abr (k:Nat) (s:ByteArray):ByteArray:=if k=0 then s else⟨(Lib.decDigits k).toArray⟩++s
theorem F1 {k:Nat} (h:10<=k):Lib.decDigits k=Lib.decDigits (k / 10)++[UInt8.ofNat (48+k % 10)]:=by
 rw[Lib.decDigits,dif_neg o_]
theorem EI {k:Nat} (h:k<10):Lib.decDigits k=[UInt8.ofNat (48+k)]:=by
 rw[Lib.decDigits,dif_pos h]
theorem PA {k:Nat} {s:ByteArray} (h:0<k):Abr k s=Abr (k / 10) (⟨#[UInt8.ofNat (48+k % 10)]⟩++s):=by
 unfold Abr;rw[Qa4 o_];by_cases h1:k<10
 ·rw[Qa2 o_,EI h1,Nat.mod_eq_of_lt h1]
 ·rw[Qa4 o_,F1 o_];rw[<-ByteArray.append_assoc];congr 1
theorem Aaq:Ic 0=⟨#[48]⟩:=by
 unfold Ic Lib.itoa;rw[Qa4 o_,EI (by decide)];rfl
theorem Abv {n:Int} (h:n<0):Ic n=⟨#[45]⟩++Abr n.natAbs ⟨#[]⟩:=by
 unfold Ic Lib.itoa Abr;rw[Qa2 h,Qa4 o_];apply ByteArray.ext;simp
theorem AcG {n:Int} (h:0<n):Ic n=Abr n.natAbs ⟨#[]⟩:=by
 unfold Ic Lib.itoa Abr;rw[Qa4 o_,Qa4 o_,show n.toNat=n.natAbs from o_];apply ByteArray.ext;simp
theorem FH:∀ (f k:Nat),k<10 ^ (f+1)->(Lib.decDigits k).length<=f+1
 | 0,k,h=>by rw[EI o_];simp
 | f+1,k,h=>by
  by_cases h1:k<10
  ·rw[EI h1];simp
  ·rw[F1 o_,Qa3];have:=FH f (k / 10) (by rw[Nat.pow_succ] at h;omega);simp only[Qa6,Qb9];omega
theorem MU {n:Int} (h0 : -9223372036854775808<=n) (h1:n<=9223372036854775807):(Ic n).size<=20:=by
 have e:(Ic n).size=(Lib.itoa n).length:=by simp[Ic,ByteArray.size]
 rw[e];unfold Lib.itoa;split
 ·have:=FH 18 n.natAbs o_;simp only[Qa6];omega
 ·have:=FH 18 n.toNat o_;omega
theorem AaQ (x:Int):(if x.tmod 10<0 then 0-x.tmod 10 else x.tmod 10)=((x.natAbs % 10:Nat):Int):=by
 have h1:(x.tmod 10).natAbs=x.natAbs % 10:=Int.natAbs_tmod x 10;split<;>omega
theorem AcL (x:Int):(x.tdiv 10).natAbs=x.natAbs / 10:=Int.natAbs_tdiv x 10
theorem Anw {k:Nat} (h:k<10):IntKind.u8.wrap (IntKind.i64.wrap (48+(k:Int)))=((48+k:Nat):Int):=by
 have e:IntKind.i64.wrap (48+(k:Int))=48+(k:Int):=Ag o_;rw[e];simp only[IntKind.wrap,IntKind.bits,IntKind.signed,Bool.false_and,Qd4,Qe6];have:(2 ^ 8:Int)=256:=rfl;omega
theorem XZ {k:Nat} (h:k<10):List.foldl (λ(r:ByteArray) (n:Int)=>r.push (UInt8.ofNat n.toNat)) ByteArray.empty [((48+k:Nat):Int)]=⟨#[UInt8.ofNat (48+k)]⟩:=by
 simp only[List.foldl,Qg4];rfl
end Go.D
namespace Go.D
def Lv (b:UInt8):List UInt8->List (List UInt8)
 | []=>[[]]
 | x::l=>if x=b then[]::Lv b l else match Lv b l with
  | []=>[[x]]
  | h::t=>(x::h)::t
theorem JJ (b:UInt8) (l:List UInt8):Lv b l≠[]:=by
 cases l with
 | nil=>simp[Lv]
 | cons x l=>
  unfold Lv;grind
def Lw (p:List UInt8):List (List UInt8)->List (List UInt8)
 | []=>[p]
 | h::t=>(p++h)::t
theorem PK {l:List (List UInt8)} (h:l≠[]):Lw [] l=l:=by
 cases l with
 | nil=>exact absurd rfl h
 | cons x l=>rfl
theorem EG (b x:UInt8) (l:List UInt8):Lv b (x::l)=if x=b then[]::Lv b l else Lw [x] (Lv b l):=by
 rfl
theorem Sj (p q:List UInt8) {l:List (List UInt8)} (h:l≠[]):Lw p (Lw q l)=Lw (p++q) l:=by
 cases l with
 | nil=>exact absurd rfl h
 | cons x l=>simp[Lw]
theorem Nb (p h:List UInt8) (t:List (List UInt8)):Lw p (h::t)=(p++h)::t:=rfl
theorem TX {b:UInt8}:∀ {p:List UInt8} (l:List UInt8),b∉p->Lv b (p++b::l)=p::Lv b l
 | [],l,_=>by rw[Qg3,EG,Qa2 rfl]
 | x::p,l,h=>by simp only[Qe5,not_or] at h;rw[Qf3,EG,Qa4 (λe=>h.1 e.symm),TX l h.2];rfl
theorem PD {b:UInt8}:∀ {p:List UInt8},b∉p->Lv b p=[p]
 | [],_=>rfl
 | x::p,h=>by simp only[Qe5,not_or] at h;rw[EG,Qa4 (λe=>h.1 e.symm),PD h.2];rfl
theorem Oc (b:UInt8):∀ l:List UInt8,(Lv b l).length<=l.length+1/\∀ p∈Lv b l,p.length<=l.length
 | []=>by simp[Lv]
 | x::l=>by
  obtain⟨h1,h2⟩:=Oc b l;rw[EG];split
  ·grind
  ·cases h:Lv b l with
   | nil=>exact absurd h (JJ b l)
   | cons y t=>
    rw[h] at h1 h2;refine⟨by simp only[Lw,Qa6] at h1 ⊢;omega,λp hp=>?_⟩;simp only[Lw,Qe5] at hp;grind
def ofL (l:List UInt8):ByteArray:=⟨l.toArray⟩
def toL (s:ByteArray):List UInt8:=s.data.toList
theorem DS (s:ByteArray):ofL (toL s)=s:=by simp[ofL,toL]
theorem Kb (l:List UInt8):toL (ofL l)=l:=by simp[ofL,toL]
theorem BT (s:ByteArray):(toL s).length=s.size:=rfl
theorem FQ (l:List UInt8):(ofL l).size=l.length:=by simp[ofL,ByteArray.size]
theorem EL (s t:ByteArray):toL (s++t)=toL s++toL t:=by simp[toL]
theorem H4 (l m:List UInt8):ofL (l++m)=ofL l++ofL m:=by
 rfl
theorem Bs (s:ByteArray) (a b:Nat):toL (s.extract a b)=((toL s).take b).drop a:=by
 simp[toL,List.drop_take]
def spl (b:UInt8) (s:ByteArray):List ByteArray:=(Lv b (toL s)).map ofL
def J6 (b:UInt8) (s:ByteArray) (a i:Nat):List ByteArray:=if i<=s.size then(Lw (((toL s).take i).drop a) (Lv b ((toL s).drop i))).map ofL else[]
theorem Wg (b:UInt8) (s:ByteArray):J6 b s 0 0=spl b s:=by
 unfold J6 spl;rw[Qa2 (Nat.zero_le _)];simp[PK (JJ b _)]
theorem QX (b:UInt8) {s:ByteArray} {a i:Nat} (h:s.size<i):J6 b s a i=[]:=by
 unfold J6;rw[Qa4 o_]
theorem VM (b:UInt8) {s:ByteArray} {a i:Nat} (h:i=s.size):J6 b s a i=[s.extract a i]:=by
 subst h;unfold J6;rw[Qa2 (Qa8 _),Qb0 (l:=toL s) (i:=s.size) (by rw[BT];exact Qa8 _)];rw[Lv,Nb,Qd5,Qd0,<-Bs,DS];rfl
theorem HT {s:ByteArray} {i:Nat} (h:i<s.size):(toL s).drop i=s.data.getD i 0::(toL s).drop (i+1):=by
 have h2:i<s.data.size:=h;have e:s.data.getD i 0=s.data[i]:=by unfold Array.getD;rw[dif_pos h2];rfl
 rw[List.drop_eq_getElem_cons (by rw[BT];exact h),e];rfl
theorem WR {b:UInt8} {s:ByteArray} {a i:Nat} (h:i<s.size) (hb:s.data.getD i 0=b):J6 b s a i=s.extract a i::J6 b s (i+1) (i+1):=by
 unfold J6;rw[Qa2 o_,Qa2 o_,HT h,EG,Qa2 hb];rw[Nb,Qd5,Qd0,<-Bs,DS,Qb0 (l:=(toL s).take (i+1)) (i:=i+1) (by rw[Qc1];omega),PK (JJ b _)]
theorem VE {b:UInt8} {s:ByteArray} {a i:Nat} (h:i<s.size) (ha:a<=i) (hb:s.data.getD i 0≠b):J6 b s a i=J6 b s a (i+1):=by
 unfold J6;rw[Qa2 o_,Qa2 o_,HT h,EG,Qa4 hb,Sj _ _ (JJ b _)];congr 2;have:(toL s).take (i+1)=(toL s).take i++[s.data.getD i 0]:=by
  have h2:i<s.data.size:=h;have e:s.data.getD i 0=s.data[i]:=by unfold Array.getD;rw[dif_pos h2];rfl
  rw[List.take_succ_eq_append_getElem (by rw[BT];exact h),e];rfl
 rw[this,List.drop_append_of_le_length (by rw[Qc1,BT];omega)]
theorem Ud (b:UInt8):∀ l:List UInt8,((Lv b l).map λp=>p.length+1).sum=l.length+1
 | []=>rfl
 | x::l=>by
  have h:=Ud b l;rw[EG];split
  ·grind
  ·cases hq:Lv b l with
   | nil=>exact absurd hq (JJ b l)
   | cons y t=>
    rw[hq] at h;simp only[Qd0,List.sum_cons,Lw,Qa3,Qa6,Qb9] at h ⊢;omega
theorem D9 (b:UInt8) (s:ByteArray):0<(spl b s).length/\(spl b s).length<=s.size+1:=by
 have h:=Oc b (toL s);have h2:=JJ b (toL s);rw[BT] at h;unfold spl;grind
theorem Ij {b:UInt8} {s x:ByteArray} (h:x∈spl b s):x.size<=s.size:=by
 unfold spl at h;obtain⟨p,hp,rfl⟩:=Qg7.1 h;rw[FQ];exact(Oc b (toL s)).2 p hp
def Ff (b:UInt8):List UInt8->Option (List UInt8×List UInt8)
 | []=>none
 | x::l=>if x=b then some ([],l) else(Ff b l).map λr=>(x::r.1,r.2)
theorem K7 {b:UInt8}:∀ {l:List UInt8},b∉l->Ff b l=none
 | [],_=>rfl
 | x::l,h=>by simp only[Qe5,not_or] at h;rw[Ff,Qa4 (λe=>h.1 e.symm),K7 h.2];rfl
theorem Oa {b:UInt8}:∀ {p:List UInt8} (l:List UInt8),b∉p->Ff b (p++b::l)=some (p,l)
 | [],l,_=>by rw[Qg3,Ff,Qa2 rfl]
 | x::p,l,h=>by simp only[Qe5,not_or] at h;rw[Qf3,Ff,Qa4 (λe=>h.1 e.symm),Oa l h.2];rfl
theorem Xb {b:UInt8} {s:ByteArray} {i:Nat} (h:i<s.size) (hb:s.data.getD i 0=b) (hn:b∉(toL s).take i):Ff b (toL s)=some ((toL s).take i,(toL s).drop (i+1)):=by
 have e:toL s=(toL s).take i++b::(toL s).drop (i+1):=by rw[<-hb,<-HT h,Qd3]
 rw[e,Oa _ hn,<-e]
theorem Zc {b:UInt8} {s:ByteArray} {i:Nat} (h:i<s.size) (hb:s.data.getD i 0≠b) (hn:b∉(toL s).take i):b∉(toL s).take (i+1):=by
 have h2:i<s.data.size:=h;have e:s.data.getD i 0=s.data[i]:=by unfold Array.getD;rw[dif_pos h2];rfl
 rw[List.take_succ_eq_append_getElem (by rw[BT];exact h),Qc0,not_or];refine⟨hn,?_⟩;simp only[List.mem_singleton];intro h3;exact hb (by rw[e];exact h3.symm)
end Go.D
namespace Go.D
open Go.Sort
def pv:Ty->Bool
 | .int=>true
 | .bool=>true
 | .str=>true
 | .u8=>true
 | _=>false
def vOf (t:Ty) (x:El t):Value:=match enc t x with
 | [.val v]=>v
 | _=>undef
def HI:(as:List Ak)->As as->List Value
 | [],_=>[]
 | .v (.el t)::as,x=>vOf t x.1::HI as x.2
 | _::as,x=>undef::HI as x.2
def Iz:List Ak->Bool
 | []=>true
 | .v (.el t)::as=>pv t&&Iz as
 | _::_=>false
def GM:List Sh->Bool
 | []=>true
 | .el t::rs=>pv t&&GM rs
 | _::_=>false
def IC:(rs:List Sh)->Ts rs->List Value
 | [],_=>[]
 | .el t::rs,x=>vOf t x.1::IC rs x.2
 | .sl _::rs,x=>undef::IC rs x.2
def AgY:List Value->Value
 | [v]=>v
 | vs=>.tuple vs.toArray
theorem Xi {t:Ty} (h:pv t=true) (x:El t):enc t x=[.val (vOf t x)]/\plain (vOf t x)=true/\(Sh.el t).agg=false:=by
 cases t<;>first|exact⟨rfl,rfl,rfl⟩|cases h
theorem Nw {w:World} {G:Gh}:∀ (as:List Ak) (x:As as),Iz as=true->∀ (vs:List Value),vs.length=(Et as x).length->(∀ (j:Nat) (y:TV),(Et as x)[j]? = some y->∃ v,vs[j]? = some v/\TVR w G y v)->vs=HI as x:=by
 intro as
 induction as with
 | nil=>intro x _ vs hl _;exact List.eq_nil_of_length_eq_zero hl
 | cons a as ih=>
  intro x hp vs hl hh;cases a with
  | v s=>
   cases s with
   | el t=>
    simp only[Iz,Qa1] at hp;obtain⟨e1,e2,e3⟩:=Xi hp.1 x.1;cases vs with
    | nil=>simp[Et] at hl
    | cons v vs=>
     obtain⟨v',hv,hr⟩:=hh 0 _ rfl;simp only[List.getElem?_cons_zero,Qa0] at hv;subst hv;have hc:Ac6 (.v (.el t)) x.1=.v false [.sc (vOf t x.1)]:=by show TV.v (Sh.el t).agg ((enc t x.1).map (toCell none))=_;rw[e1,e3];rfl
     rw[hc] at hr;obtain⟨c,hc1,hc2⟩:=hr;injection hc1 with hc1
     subst hc1;rw[HI,hc2.1,ih x.2 hp.2 vs (by simpa [Et] using hl) λj y hj=>hh (j+1) y hj]
   | sl t=>simp[Iz] at hp
  | _=>simp[Iz] at hp
theorem MH:∀ (rs:List Sh) (y:Ts rs),GM rs=true->JE rs y=(IC rs y).map λv=>(false,[FC.val v]):=by
 intro rs
 induction rs with
 | nil=>intro y _;rfl
 | cons s rs ih=>
  intro y hp;cases s with
  | el t=>
   simp only[GM,Qa1] at hp;obtain⟨e1,e2,e3⟩:=Xi hp.1 y.1;simp only[JE,IC,Qd0,ih y.2 hp.2,e3];congr 2
  | sl t=>simp[GM] at hp
theorem P5:∀ (rs:List Sh) (y:Ts rs),GM rs=true->∀ v∈IC rs y,plain v=true:=by
 intro rs
 induction rs with
 | nil=>intro y _ v hv;cases hv
 | cons s rs ih=>
  intro y hp v hv;cases s with
  | el t=>
   simp only[GM,Qa1] at hp;rcases Qe5.1 hv with rfl|hv
   ·exact(Xi hp.1 y.1).2.1
   ·grind
  | sl t=>simp[GM] at hp
theorem Ad3 {w:World}:∀ (vs:List Value),(∀ v∈vs,plain v=true)->ResR w (V6 (vs.map λv=>(false,[FC.val v]))) (AgY vs) (λ_ _ _=>False)
 | [],_=>⟨#[],rfl,rfl,by simp⟩
 | [v],h=>by
  refine⟨_,rfl,⟨rfl,h v (by simp)⟩,Mt (h v (by simp))⟩
 | v::u::vs,h=>by
  refine⟨(v::u::vs).toArray,rfl,by simp,λi p hp=>?_⟩;have hp:((v::u::vs).map λv=>(false,[FC.val v]))[i]? = some p:=hp;rw[Qc3] at hp;cases hq:(v::u::vs)[i]? with
  | none=>rw[hq] at hp;cases hp
  | some x=>
   rw[hq] at hp;injection hp with hp
   subst hp;have:=h x (Qf7 hq);exact⟨x,by simpa using hq,_,rfl,⟨rfl,this⟩,Mt this⟩
theorem Ux {P:Program} {f:Nat} {S:Fct} (ha:Iz S.as=true) (hr:GM S.rs=true)
 (h:∀ x,S.pre x->∀ (w:World) (ow:Nat->Own),Base P w ow->Calls P f (HI S.as x).toArray w λe w'=>e=.returned (AgY (IC S.rs (S.fn x)))/\∃ n os,w'=grow (w.drewN n) os):S.ok P f:=by
 intro x hx w vs G hB hA;have hvs:vs=(HI S.as x).toArray:=by
  have:=Nw (w:=w) (G:=G) S.as x ha vs.toList (by simpa [Fct.arg] using hA.sz) λj y hj=>by obtain⟨v,hv,hr⟩:=hA.tm j y hj;simp_all
  rw[<-this]
 subst hvs;refine(h x hx w _ hB).mono ?_;rintro e w' ⟨rfl,n,os,rfl⟩;have hold:∀ g,g<w.heap.size->(grow (w.drewN n) os).heap[g]? = w.heap[g]?:=λg hg=>by rw[heap_grow_old _ _ (show g<(w.drewN n).heap.size from hg)];rfl
 refine⟨_,⟨mkR S.rs (S.fn x),[],[]⟩,rfl,rfl,⟨rfl,rfl,⟨rfl,by first|exact DrLe.refl _|exact DrLe.succ _|exact DrLe.add _ _⟩,?_⟩,λg hg=>hold g (hA.lt g (by simp[hg])),λg hg=>(hA.cr g hg).same (hold g (hA.lt g (by simp[hg]))),λ_ _=>False,by simp,by simp,?_,?_,?_⟩
 ·show w.heap.size<=(w.heap++os).size;simp
 ·show ResR _ (V6 (JE S.rs (S.fn x))) _ _;rw[MH _ _ hr];exact Ad3 _ (P5 _ _ hr)
 ·intro m T hm;cases hm
 ·intro b cs hb;cases hb
theorem Aa2 (w:World):w=grow (w.drewN 0) #[]:=by
 rfl
end Go.D
namespace Go.D
open Go.RowKit
theorem S6 (w:World) (r:Array Value) (T:TypeId) (j:Nat) (v:Value):(w.alloc (.cells r T)).setCell ⟨w.heap.size,j,none⟩ v=w.alloc (.cells (r.setIfInBounds j v) T):=by
 rw[setCell_eq_setRow _ _ _ r T (0,0) v (heap_alloc_last w _),World.setRow_alloc_new]
theorem EV (w:World) (r:Array Value) (T:TypeId) (j:Nat):(w.alloc (.cells r T)).cell? ⟨w.heap.size,j,none⟩=r[j]?:=cell_of_row _ _ j r T (0,0) (heap_alloc_last w _)
theorem Pe (w:World) (r:Array Value) (T:TypeId) (j:Nat):(w.alloc (.cells r T)).frozen? ⟨w.heap.size,j,none⟩=false:=by
 simp
theorem Tw {r:Array Value} {i:Nat} {v:Value} (hi:i<r.size) (t:Nat):(r.setIfInBounds i v)[t]? = if t=i then some v else r[t]?:=by
 grind
structure Neu (w w':World):Prop where
 os:w'.os=w.os
 tape:w'.tape=w.tape
 output:w'.output=w.output
 drawn:DrLe w.drawn w'.drawn
 size:w.heap.size<=w'.heap.size
 old:∀ g,g<w.heap.size->w'.heap[g]? = w.heap[g]?
theorem Neu.refl (w:World):Neu w w:=⟨rfl,rfl,rfl,DrLe.refl _,Qa8 _,λ_ _=>rfl⟩
theorem Neu.drew {w w':World} (h:Neu w w'):Neu w w'.drew:=⟨h.os,h.tape,h.output,h.drawn.trans (DrLe.succ _),h.size,h.old⟩
theorem Neu.alloc {w w':World} (h:Neu w w') (o:Obj):Neu w (w'.alloc o):=⟨h.os,h.tape,h.output,h.drawn,by rw[World.size_alloc];have:=h.size;omega,λg hg=>by
 rw[<-h.old g hg];show(w'.heap.push o)[g]? = _;rw[Array.getElem?_push,Qa4 (by have:=h.size;omega)]⟩
theorem Neu.set {w w':World} (h:Neu w w') {a:Addr} (ha:w.heap.size<=a.block) (v:Value):Neu w (w'.setCell a v):=⟨h.os,h.tape,h.output,h.drawn,by rw[World.size_setCell];exact h.size,λg hg=>by
 rw[<-h.old g hg];unfold World.setCell;simp only[Array.getElem?_modify];rw[Qa4 o_]⟩
theorem Neu.bytes {w w':World} (h:Neu w w') (e:TypeId) (s:ByteArray):Neu w (Lib.bytesWorld w' e s):=⟨h.os,h.tape,h.output,h.drawn.trans (DrLe.succ _),by rw[Lib.bytesWorld_size];have:=h.size;omega,λg hg=>by
 rw[<-h.old g hg];exact Lib.bytesWorld_at_old w' e s g (by have:=h.size;omega)⟩
theorem Neu.put {w w':World} (h:Neu w w') {α:Type} [Inhabited α] (enc:α->Value) {b:Nat} (hb:w.heap.size<=b) (off:Nat) (d:Array α):Neu w (Go.Sort.putRow enc w' b off d):=⟨h.os,h.tape,h.output,h.drawn,by
 unfold Go.Sort.putRow Go.Sort.mapBlock;simp only[Array.size_modify];exact h.size,λg hg=>by
 rw[<-h.old g hg];unfold Go.Sort.putRow Go.Sort.mapBlock;simp only[Array.getElem?_modify];rw[Qa4 o_]⟩
theorem Neu.trans {a b c:World} (h:Neu a b) (k:Neu b c):Neu a c:=⟨k.os.trans h.os,k.tape.trans h.tape,k.output.trans h.output,h.drawn.trans k.drawn,Qd7 h.size k.size,λg hg=>(k.old g (Qf2 hg h.size)).trans (h.old g hg)⟩
theorem Neu.below {w w':World} (h:Below w.heap.size w w'):Neu w w':=⟨h.os,h.tape,h.output,trivial,h.size,λg hg=>h.block g hg⟩
theorem Neu.grow (w:World) (k:Nat) (os:Array Obj):Neu w (Go.Sort.grow (w.drewN k) os):=⟨rfl,rfl,rfl,DrLe.add _ _,by show w.heap.size<=(w.heap++os).size;simp,λg hg=>by
 show(w.heap++os)[g]? = _;rw[Array.getElem?_append_left hg]⟩
theorem Neu.laid {P:Program} {w w':World} (h:Neu w w') (l:Laid P w):Laid P w' :=
 ⟨λq=>JN h.old (l.1 q),λq=>let ⟨tp,p,hv⟩:=l.2.1 q;⟨tp,p,JN h.old hv⟩,λq=>let ⟨tp,p,hv⟩:=l.2.2 q;⟨tp,p,JN h.old hv⟩⟩
theorem UB {P:Program} {w:World} {n:String} {g:Nat} {x:Value} (hg:P.globalNamed n=some g) (h:w.var? P n=some #[x]):w.cell? ⟨g,0,none⟩=some x:=by
 unfold World.var? at h;rw[hg,Option.bind_some] at h;split at h
 ·rename_i cs e z hh;simp only[Qa0] at h;subst h;simp[World.cell?,hh]
 ·cases h
open Go.Sort in
theorem Rk {P:Program} {f:Nat} {S:Fct} (ha:Iz S.as=true) (hr:GM S.rs=true)
 (h:∀ x,S.pre x->∀ (w:World) (ow:Nat->Own),Base P w ow->Calls P f (HI S.as x).toArray w λe w'=>e=.returned (AgY (IC S.rs (S.fn x)))/\Neu w w'):S.ok P f:=by
 intro x hx w vs G hB hA;have hvs:vs=(HI S.as x).toArray:=by
  have:=Nw (w:=w) (G:=G) S.as x ha vs.toList (by simpa [Fct.arg] using hA.sz) λj y hj=>by obtain⟨v,hv,hr⟩:=hA.tm j y hj;simp_all
  rw[<-this]
 subst hvs;refine(h x hx w _ hB).mono ?_;rintro e w' ⟨rfl,hn⟩;refine⟨_,⟨mkR S.rs (S.fn x),[],[]⟩,rfl,rfl,⟨hn.os,hn.tape,⟨hn.output,hn.drawn⟩,hn.size⟩,λg hg=>hn.old g (hA.lt g (by simp[hg])),λg hg=>(hA.cr g hg).same (hn.old g (hA.lt g (by simp[hg]))),λ_ _=>False,by simp,by simp,?_,?_,?_⟩
 ·show ResR _ (V6 (JE S.rs (S.fn x))) _ _;rw[MH _ _ hr];exact Ad3 _ (P5 _ _ hr)
 ·intro m T hm;cases hm
 ·intro b cs hb;cases hb
end Go.D
