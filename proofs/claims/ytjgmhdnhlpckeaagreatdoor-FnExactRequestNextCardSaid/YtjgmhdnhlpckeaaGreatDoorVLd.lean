/-
  The library of the proof, part 4.
-/
import Derived.Test.YtjgmhdnhlpckeaaGreatDoorVLc
import Derived.Lib.Bytealg
import Derived.Sort.LotA
import Derived.Laws.Strings
import Derived.Lib.ItoaNum
import Derived.Sort.Grow
import Derived.Deep.Draws
import Derived.Deep.WholeRow
import Derived.Laws.CopyRow
import Derived.Laws.NewBlocks
import Derived.Lib.ConvBytes
set_option linter.unusedVariables false
set_option linter.unusedSimpArgs false
namespace Go.D
set_option linter.unusedSimpArgs false
section
variable {P:Program} {E:Env} {m:Nat} {fn:Func} {t:Ty}
def szF (s:Sh) (f:s.X->Nat):Fct:=⟨[.v s,aI],[rI],fun(x:s.X×Int×Unit)=>Sh.good s x.1/\0<=x.2.1/\x.2.1<=1048576,fun(x:s.X×Int×Unit)=>(lessen x.2.1 (f x.1),())⟩
def szX (t:Ty) (f:El t->Nat) (l:List (El t)) (n:Int):Out :=
 .br (decide (wr (n-(l.length:Int))<0)) (.lf (szF (.sl t) (szL f)) ((-1:Int),()))
  (lpx (Aeh t f l n) (wr (n-(l.length:Int)),((0:Int),())) fun(y2:Int×Int×PUnit) bk2=>
   .br (decide (y2.2.1<(l.length:Int)))
    (.ob (inB y2.2.1 l.length)<|.cl (szF (.el t) f) (l.getD y2.2.1.toNat default,y2.1,()) fun z2=>.br (decide (z2.1<0)) (.lf (szF (.sl t) (szL f)) ((-1:Int),())) (.ob (l=l)<|.ob (bk2 (z2.1,(w1 y2.2.1,())))<|.ok))
    (.lf (szF (.sl t) (szL f)) (y2.1,())))
theorem Ags {f:El t->Nat} {l:List (El t)} {n:Int} (hp0:(szF (.sl t) (szL f)).pre (l,n,())):(szX t f l n).holds ((szF (.sl t) (szL f)).ctr (l,n,())).post:=by
 have hp:Sh.good (.sl t) l/\0<=n/\n<=1048576:=hp0;clear hp0;refine Ab (fun h1=>lfY ?_) (fun h1=>Ay ?_ fun(y2:Int×Int×PUnit) i2=>Ab (fun h3=>Aa ?_ fun o4=>Af ?_ fun o5=>(Ab (fun h6=>lfY ?_) (fun h6=>Aa rfl fun _=>Aa ?_ fun o7=>trivial))) (fun h3=>lfY ?_));all_goals try simp only[Az] at *
 all_goals try simp only[Aeh,szF,Ag3,Nat.reduceAdd] at *
 ·have:=good_len hp.1;simp only[maxLen] at this;rw[Ah (by omega)] at h1;rw[FI (by simp only[szL];omega)]
 ·have:=good_len hp.1;simp only[maxLen] at this;rw[Ah (by omega)] at h1 ⊢;exact⟨by omega,by omega,h1,by simp⟩
 ·omega
 ·exact⟨Pg hp.1 (by omega),by omega,by omega⟩
 ·have hs:=Gd f l (y2.2.1.toNat+1);rw[Ic f (by omega)] at hs;rw[GJ (by omega)] at h6;rw[FI (by simp only[szL];omega)]
 ·have hw:IntKind.i64.wrap (y2.2.1+1)=y2.2.1+1:=Ah (by have:=good_len hp.1;simp only[maxLen] at this;omega);have h7:¬ lessen y2.1 (f (l.getD y2.2.1.toNat default))<0:=by omega
  rw[GJ (by omega)] at h7;rw[hw,toNat1 (by omega),Ic f (by omega),GC (by omega)];exact⟨⟨by omega,by omega,by omega,by omega⟩,by omega⟩
 ·have e:l.take y2.2.1.toNat=l:=Qb6 (by omega);rw[e] at i2;have hz:((szL f l:Nat):Int)=l.length+(l.map f).sum:=by simp only[szL];omega
  rw[GC (by omega)];show y2.1=n-((szL f l:Nat):Int);omega
theorem szS {f:El t->Nat} (kp:List Nat) (hE:EOk P E) (hf:P.funcs[m]? = some fn)
 (h:∀ l k,Ft P E (fun|5=>some (Aeh t f l k)|_=>none) kp [] fn ((szF (.sl t) (szL f)).arg (l,k,()))=szX t f l k)
 (hc:(fn.body.isSome&&decide (2<=fn.ntmps))=true:=by kernel_rfl):(szF (.sl t) (szL f)).ok P m:=by
 rw[Qa1] at hc;exact Fct.of (S:=szF (.sl t) (szL f)) (L:=fun x=>fun|5=>some (Aeh t f x.1 x.2.1)|_=>none) hE hf hc.1 hc.2 fun x hx=>⟨(h x.1 x.2.1)▸Ags hx⟩
inductive SzI:Type
 | p (k:Nat)
 | c (s:Sh) (f:s.X->Nat) (x:s.X)
def SzI.n:SzI->Nat
 | .p k=>k
 | .c _ f x=>f x
def SzI.ok:SzI->Prop
 | .p k=>k<=maxLen
 | .c s _ x=>Sh.good s x
def Agn (a:Nat):List SzI->Nat
 | []=>a
 | i::is=>Agn (a+i.n) is
def AeF:List SzI->Nat
 | []=>0
 | i::is=>Agn i.n is
def Fq:List SzI->Prop
 | []=>True
 | i::is=>i.ok/\Fq is
def OQ:List SzI->Nat
 | []=>0
 | i::is=>i.n+OQ is
theorem VI:∀ (is:List SzI) (a:Nat),Agn a is=a+OQ is
 | [],a=>rfl
 | i::is,a=>by rw[Agn,VI is,OQ];omega
theorem ZR (is:List SzI):AeF is=OQ is:=by
 cases is with
 | nil=>rfl
 | cons i is=>rw[AeF,VI];rfl
def szC (s:Sh) (f:s.X->Nat):List SzI->Int->Out
 | [],k=>.lf (szF s f) (k,())
 | .p a::r,k=>.br (decide (wr (k-(a:Int))<0)) (.lf (szF s f) ((-1:Int),())) (szC s f r (wr (k-(a:Int))))
 | .c s' f' x::r,k=>.cl (szF s' f') (x,k,()) fun z=>.br (decide (z.1<0)) (.lf (szF s f) ((-1:Int),())) (szC s f r z.1)
theorem AdR {s:Sh} {f:s.X->Nat} {x:s.X} {n:Int}:∀ (is:List SzI) (k:Int),0<=k->k<=1048576->Fq is->lessen n (f x)=lessen k (OQ is)->(szC s f is k).holds ((szF s f).ctr (x,n,())).post
 | [],k,h0,h1,_,h=>lfY (by show(k,())=(lessen n (f x),());rw[h,OQ,GC (by omega)];simp)
 | .p a::r,k,h0,h1,ho,h=>by
  have ha:a<=maxLen:=ho.1;simp only[maxLen] at ha;have e:wr (k-(a:Int))=k-a:=Ah (by omega);simp only[OQ,SzI.n] at h;refine Ab (fun hb=>lfY ?_) (fun hb=>?_)
  ·rw[e] at hb;simp only[Qa9] at hb;show((-1:Int),())=(lessen n (f x),());rw[h,FI (by omega)]
  ·rw[e] at hb ⊢;simp only[Qb2] at hb;refine AdR r _ (by omega) (by omega) ho.2 ?_;rw[h];unfold lessen;split<;>split<;>omega
 | .c s' f' y::r,k,h0,h1,ho,h=>by
  simp only[OQ,SzI.n] at h;refine Af ⟨ho.1,h0,h1⟩ fun _=>?_
  refine Ab (fun hb=>lfY ?_) (fun hb=>?_)
  ·have hb:decide (lessen k (f' y)<0)=true:=hb;simp only[Qa9] at hb;rw[GJ h0] at hb;show((-1:Int),())=(lessen n (f x),());rw[h,FI (by omega)]
  ·have hb:decide (lessen k (f' y)<0)=false:=hb;simp only[Qb2] at hb;have e:lessen k (f' y)=k-f' y:=by rw[GJ h0] at hb;exact GC (by omega)
   rw[GJ h0] at hb;show(szC s f r (lessen k (f' y))).holds _;rw[e];refine AdR r _ (by omega) (by omega) ho.2 ?_;rw[h];unfold lessen;split<;>split<;>omega
theorem szT {s:Sh} {f:s.X->Nat} (kp:List Nat) (is:s.X->List SzI) (hE:EOk P E) (hf:P.funcs[m]? = some fn)
 (h:∀ x k,Ft P E (fun _=>none) kp [] fn ((szF s f).arg (x,k,()))=szC s f (is x) k)
 (hs:∀ x,f x=AeF (is x)) (hg:∀ x,Sh.good s x->Fq (is x))
 (hc:(fn.body.isSome&&decide (2<=fn.ntmps))=true:=by kernel_rfl):(szF s f).ok P m:=by
 rw[Qa1] at hc;refine Fct.of (S:=szF s f) (L:=fun _ _=>none) hE hf hc.1 hc.2 fun x hx=>⟨(h x.1 x.2.1)▸AdR (is x.1) x.2.1 hx.2.1 hx.2.2 (hg _ hx.1) ?_⟩
 rw[hs,ZR]
def toF (s:Sh) (f:s.X->Nat):Fct:=⟨[.v s],[s],fun(x:s.X×Unit)=>f x.1<=1048576,fun(x:s.X×Unit)=>(x.1,())⟩
def toX (t:Ty) (f:El t->Nat) (c:Int) (l:List (El t)):Out :=
 .ob ((l.length:Int)=(l.length:Int)/\(0:Int)<=(l.length:Int)/\c*(l.length:Int)<=140737488355328/\(l.length:Int)<=140737488355328) <|
 lpx (YT t l) ((0:Int),(List.replicate (l.length:Int).toNat default,())) fun(y2:Int×List (El t)×PUnit) bk2=>
  .br (decide (y2.1<(l.length:Int)))
   (.ob (inB y2.1 l.length)<|.cl (toF (.el t) f) (l.getD y2.1.toNat default,()) fun z2=>.ob (inB y2.1 y2.2.1.length)<|.ob (y2.1.toNat<y2.2.1.length) <|
    .lt (List (El t)) (y2.2.1.modify y2.1.toNat fun z=>z2.1) fun z3=>.ob (l=l)<|.ob (bk2 (w1 y2.1,(z3,())))<|.ok)
   (.lf (toF (.sl t) (szL f)) (y2.2.1,()))
theorem AgX {f:El t->Nat} {c:Int} (hc:0<=c/\c<=100000000) {l:List (El t)} (hp0:(toF (.sl t) (szL f)).pre (l,())):(toX t f c l).holds ((toF (.sl t) (szL f)).ctr (l,())).post:=by
 have hp:szL f l<=1048576:=hp0;clear hp0;refine Aa ?_ fun o1=>Ay ?_ fun(y2:Int×List (El t)×PUnit) i2=>Ab (fun h3=>Aa ?_ fun o4=>Af ?_ fun o5=>(Aa ?_ fun o6=>Aa ?_ fun o7=>Du (Aa rfl fun _=>Aa ?_ fun o8=>trivial))) (fun h3=>lfY ?_)
 all_goals try simp only[Az] at *
 all_goals try simp only[YT,toF,Ag3,Nat.reduceAdd] at *
 all_goals have hL:=Ad f l
 ·refine⟨by omega,?_,by omega⟩;have:=Int.mul_le_mul hc.2 (show(l.length:Int)<=1048576 by omega) (by omega) (by omega);omega
 ·exact⟨by omega,by omega,by simp⟩
 ·omega
 ·have hs:=Gd f l (y2.1.toNat+1);rw[Ic f (by omega)] at hs;simp only[szL] at hp;omega
 ·rw[i2.2.2];simp;omega
 ·rw[i2.2.2];simp;omega
 ·have hw:IntKind.i64.wrap (y2.1+1)=y2.1+1:=Ah (by omega);rw[hw,toNat1 (by omega),i2.2.2];refine⟨⟨by omega,by omega,?_⟩,by omega⟩;rw[show l.length-y2.1.toNat=(l.length-(y2.1.toNat+1))+1 from by omega,List.replicate_succ,Hw (by simp;omega),take_succ (by omega)];simp
 ·have e:l.take y2.1.toNat=l:=Qb6 (by omega);rw[i2.2.2,e];simp;omega
theorem toS {f:El t->Nat} (kp:List Nat) (c:Int) (hE:EOk P E) (hf:P.funcs[m]? = some fn)
 (h:∀ l,Ft P E (fun|3=>some (YT t l)|_=>none) kp [] fn ((toF (.sl t) (szL f)).arg (l,()))=toX t f c l)
 (hc:(fn.body.isSome&&decide (1<=fn.ntmps)&&decide (0<=c/\c<=100000000))=true:=by kernel_rfl):(toF (.sl t) (szL f)).ok P m:=by
 rw[Qa1,Qa1] at hc;exact Fct.of (S:=toF (.sl t) (szL f)) (L:=fun x=>fun|3=>some (YT t x.1)|_=>none) hE hf hc.1.1 hc.1.2 fun x hx=>⟨(h x.1)▸AgX (Qf9 hc.2) hx⟩
structure ToI where
 s:Sh
 f:s.X->Nat
 x:s.X
abbrev ToX:List ToI->Type
 | []=>Unit
 | i::is=>i.s.X×ToX is
def Ag9:(is:List ToI)->ToX is
 | []=>()
 | i::is=>(i.x,Ag9 is)
def toC:(is:List ToI)->(ToX is->Out)->Out
 | [],K=>K ()
 | i::is,K=>.cl (toF i.s i.f) (i.x,()) fun z=>toC is fun zs=>K (z.1,zs)
def Fm:List ToI->Prop
 | []=>True
 | i::is=>i.f i.x<=1048576/\Fm is
theorem Afx {Q:Post}:∀ (is:List ToI) (K:ToX is->Out),Fm is->(K (Ag9 is)).holds Q->(toC is K).holds Q
 | [],K,_,h=>h
 | i::is,K,ho,h=>Af ho.1 fun _=>Afx is (fun zs=>K (i.x,zs)) ho.2 h
theorem toT {s:Sh} {f:s.X->Nat} (kp:List Nat) (is:s.X->List ToI) (K:(x:s.X)->ToX (is x)->s.X) (hE:EOk P E) (hf:P.funcs[m]? = some fn)
 (h:∀ x,Ft P E (fun _=>none) kp [] fn ((toF s f).arg (x,()))=toC (is x) fun z=>.lf (toF s f) (K x z,()))
 (hk:∀ x,K x (Ag9 (is x))=x) (hg:∀ x,f x<=1048576->Fm (is x))
 (hc:(fn.body.isSome&&decide (1<=fn.ntmps))=true:=by kernel_rfl):(toF s f).ok P m:=by
 rw[Qa1] at hc;exact Fct.of (S:=toF s f) (L:=fun _ _=>none) hE hf hc.1 hc.2 fun x hx=>⟨(h x.1)▸Afx (is x.1) _ (hg _ hx) (lfY (by rw[hk];rfl))⟩
def eqF (s:Sh) [DecidableEq s.X] (p:s.X->Nat):Fct:=⟨[.v s,.v s],[rB],fun(x:s.X×s.X×Unit)=>p x.1<=1125899906842624,fun(x:s.X×s.X×Unit)=>(decide (x.1=x.2.1),())⟩
def obB (b:Bool) (x:Bool) (X:Out):Out:=match b with
 | true=>.ob (Value.bool x=Value.bool x) X
 | false=>X
def eqX (t:Ty) [DecidableEq (El t)] (v:Bool) (p:El t->Nat) (l m:List (El t)):Out :=
 .br ((l.length:Int) != (m.length:Int)) (.lf (eqF (.sl t) (szL p)) (false,()))
  (lpx (YR t l m) ((0:Int),()) fun(y2:Int×PUnit) bk2=>
   .br (decide (y2.1<(l.length:Int)))
    (.ob (inB y2.1 l.length)<|.ob (inB y2.1 m.length)<|.cl (eqF (.el t) p) (l.getD y2.1.toNat default,m.getD y2.1.toNat default,()) fun z2=>
     .br (!z2.1) (.lf (eqF (.sl t) (szL p)) (false,()))
      (.ob (l=l)<|.ob (m=m)<|obB v ((l.length:Int) != (m.length:Int))<|.ob (bk2 (w1 y2.1,()))<|.ok))
    (.lf (eqF (.sl t) (szL p)) (true,())))
theorem Aha {Q:Post} {b x:Bool} {X:Out} (h:X.holds Q):(obB b x X).holds Q:=by cases b<;>first|exact h|exact⟨rfl,h⟩
theorem Ag1 [DecidableEq (El t)] {v:Bool} {p:El t->Nat} {l m:List (El t)} (hp0:(eqF (.sl t) (szL p)).pre (l,m,())):(eqX t v p l m).holds ((eqF (.sl t) (szL p)).ctr (l,m,())).post:=by
 have hp0:szL p l<=1125899906842624:=hp0;have hp:l.length<=1125899906842624:=Qe6 (Ad p l) hp0;have hm:∀ i,i<l.length->p (l.getD i default)<=1125899906842624:=fun i hi=>by have:=Dx p hi;omega
 clear hp0;refine Ab (fun h1=>lfY ?_) (fun h1=>Ay ?_ fun(y2:Int×PUnit) i2=>Ab (fun h3=>Aa ?_ fun o4=>Aa ?_ fun o4'=>Af ?_ fun o5=>(Ab (fun h6=>lfY ?_) (fun h6=>Aa rfl fun _=>Aa rfl fun _=>Aha (Aa ?_ fun o7=>trivial)))) (fun h3=>lfY ?_));all_goals try simp only[Az] at *
 all_goals try simp only[YR,eqF,Ag3,Nat.reduceAdd] at *
 ·rw[Qg4];rintro rfl;omega
 ·exact⟨by omega,by omega,by simp⟩
 ·omega
 ·omega
 ·exact hm _ (by omega)
 ·rw[Qg4];rintro rfl;exact absurd rfl h6
 ·have hw:IntKind.i64.wrap (y2.1+1)=y2.1+1:=Ah (by omega);rw[hw,toNat1 (by omega)];refine⟨⟨by omega,by omega,?_⟩,by omega⟩;rw[take_succ (by omega),take_succ (by omega),i2.2.2,h6]
 ·have e:l.take y2.1.toNat=l:=Qb6 (by omega);have e2:m.take y2.1.toNat=m:=Qb6 (by omega);rw[Qf3];rw[<-e,<-e2,i2.2.2]
theorem eqS [DecidableEq (El t)] {p:El t->Nat} (kp:List Nat) (v:Bool) (hE:EOk P E) (hf:P.funcs[m]? = some fn)
 (h:∀ l r,Ft P E (fun|4=>some (YR t l r)|_=>none) kp [] fn ((eqF (.sl t) (szL p)).arg (l,r,()))=eqX t v p l r)
 (hc:(fn.body.isSome&&decide (2<=fn.ntmps))=true:=by kernel_rfl):(eqF (.sl t) (szL p)).ok P m:=by
 rw[Qa1] at hc;exact Fct.of (S:=eqF (.sl t) (szL p)) (L:=fun x=>fun|4=>some (YR t x.1 x.2.1)|_=>none) hE hf hc.1 hc.2 fun x hx=>⟨(h x.1 x.2.1)▸Ag1 hx⟩
inductive EqI:Type
 | s (x y:ByteArray)
 | i (x y:Int)
 | b (x y:Bool)
 | c (s:Sh) (d:DecidableEq s.X) (p:s.X->Nat) (x y:s.X)
def EqI.tru:EqI->Prop
 | .s x y=>x=y
 | .i x y=>x=y
 | .b x y=>x=y
 | .c _ _ _ x y=>x=y
def EqI.ok:EqI->Prop
 | .c _ _ p x _=>p x<=1125899906842624
 | _=>True
def C2:List EqI->Prop
 | []=>True
 | i::is=>i.tru/\C2 is
def Fx:List EqI->Prop
 | []=>True
 | i::is=>i.ok/\Fx is
def eqC (s:Sh) [DecidableEq s.X] (p:s.X->Nat):List EqI->Out
 | []=>.lf (eqF s p) (true,())
 | .s u v::r=>.br (!u.toList==v.toList) (.lf (eqF s p) (false,())) (eqC s p r)
 | .i u v::r=>.br (u != v) (.lf (eqF s p) (false,())) (eqC s p r)
 | .b u v::r=>.br (!u==v) (.lf (eqF s p) (false,())) (eqC s p r)
 | .c s' d p' x y::r=>.cl (@eqF s' d p') (x,y,()) fun z=>.br (!z.1) (.lf (eqF s p) (false,())) (eqC s p r)
theorem Af4 {s:Sh} [DecidableEq s.X] {p:s.X->Nat} {x y:s.X}:∀ (is:List EqI),Fx is->(x=y↔C2 is)->(eqC s p is).holds ((eqF s p).ctr (x,y,())).post
 | [],_,h=>lfY (by show(true,())=(decide (x=y),());rw[Qf3 (h.2 trivial)])
 | i::r,ho,h=>by
  have no:¬ i.tru->(Out.lf (eqF s p) (false,())).holds ((eqF s p).ctr (x,y,())).post:=fun hb=>lfY (by show(false,())=(decide (x=y),());rw[Qg4 fun e=>hb (h.1 e).1])
  have yes:i.tru->(eqC s p r).holds ((eqF s p).ctr (x,y,())).post:=fun hb=>Af4 r ho.2 ⟨fun e=>(h.1 e).2,fun e=>h.2 ⟨hb,e⟩⟩
  cases i with
  | s u v=>exact Ab (fun hb=>no (by simpa [AfA,EqI.tru] using hb)) (fun hb=>yes (by simpa [AfA,EqI.tru] using hb))
  | i u v=>exact Ab (fun hb=>no (by simpa [EqI.tru] using hb)) (fun hb=>yes (by simpa [EqI.tru] using hb))
  | b u v=>exact Ab (fun hb=>no (by simpa [EqI.tru] using hb)) (fun hb=>yes (by simpa [EqI.tru] using hb))
  | c s' d p' u v=>exact Af ho.1 fun _=>Ab (fun hb=>no (by simpa [EqI.tru,eqF] using hb)) (fun hb=>yes (by simpa [EqI.tru,eqF] using hb))
theorem eqT {s:Sh} [DecidableEq s.X] {p:s.X->Nat} (kp:List Nat) (is:s.X->s.X->List EqI) (hE:EOk P E) (hf:P.funcs[m]? = some fn)
 (h:∀ x y,Ft P E (fun _=>none) kp [] fn ((eqF s p).arg (x,y,()))=eqC s p (is x y))
 (hs:∀ x y,x=y↔C2 (is x y)) (hg:∀ x y,p x<=1125899906842624->Fx (is x y))
 (hc:(fn.body.isSome&&decide (2<=fn.ntmps))=true:=by kernel_rfl):(eqF s p).ok P m:=by
 rw[Qa1] at hc;exact Fct.of (S:=eqF s p) (L:=fun _ _=>none) hE hf hc.1 hc.2 fun x hx=>⟨(h x.1 x.2.1)▸Af4 (is x.1 x.2.1) (hg _ _ hx) (hs _ _)⟩
end
inductive Fe (α:Type):Type
 | s (g:α->ByteArray) (u:α->ByteArray->α)
 | i (g:α->Int) (u:α->Int->α)
 | b (g:α->Bool) (u:α->Bool->α)
 | l (s:Sh) (n:s.X->Nat) (f:s.X->Int->s.X×Int) (g:α->s.X) (u:α->s.X->α)
def Bd {α:Type} (n:α->Nat) (f:α->Int->α×Int):Prop:=∀ x k,k<=(f x k).2/\(f x k).2<=k+64*n x/\f (f x k).1 k=f x k
section
variable {α:Type}
def Fe.mk1:Fe α->α->Int->α×Int
 | .s _ u,x,k=>(u x (JE k),k+1)
 | .i _ u,x,k=>(u x k,k+1)
 | .b _ u,x,k=>(u x (k.tmod 3==0),k+1)
 | .l _ _ f g u,x,k=>(u x (f (g x) k).1,(f (g x) k).2)
def mkA:List (Fe α)->α->Int->α×Int
 | [],x,k=>(x,k)
 | d::r,x,k=>mkA r (d.mk1 x k).1 (d.mk1 x k).2
def Fe.law:Fe α->Prop
 | .s g u=>(∀ x v,g (u x v)=v)/\∀ x,u x (g x)=x
 | .i g u=>(∀ x v,g (u x v)=v)/\∀ x,u x (g x)=x
 | .b g u=>(∀ x v,g (u x v)=v)/\∀ x,u x (g x)=x
 | .l _ n f g u=>Bd n f/\(∀ x v,g (u x v)=v)/\∀ x,u x (g x)=x
def Fe.same:Fe α->α->α->Prop
 | .s g _,x,y=>g x=g y
 | .i g _,x,y=>g x=g y
 | .b g _,x,y=>g x=g y
 | .l _ _ _ g _,x,y=>g x=g y
def Agm (d:Fe α):List (Fe α)->Prop
 | []=>True
 | e::r=>(∀ x k,d.same (e.mk1 x k).1 x)/\(∀ x k,e.same (d.mk1 x k).1 x)/\Agm d r
def Laws:List (Fe α)->Prop
 | []=>True
 | d::r=>d.law/\Agm d r/\Laws r
def Fe.isv:Fe α->α->Int->Prop
 | .s g _,x,k=>g x=JE k
 | .i g _,x,k=>g x=k
 | .b g _,x,k=>g x=(k.tmod 3==0)
 | .l _ _ f g _,x,k=>(f (g x) k).1=g x
def Fe.cost:Fe α->α->Nat
 | .l _ n _ g _,x=>64*n (g x)
 | _,_=>1
def D6:List (Fe α)->α->Nat
 | [],_=>0
 | d::r,x=>d.cost x+D6 r x
def Abf:List (Fe α)->Bool
 | []=>false
 | .l ..::r=>Abf r
 | _::_=>true
theorem Fe.same_trans {d:Fe α} {x y z:α} (h1:d.same x y) (h2:d.same y z):d.same x z:=by
 cases d<;>exact Eq.trans h1 h2
theorem He {d:Fe α} (h:d.law) (x:α) (k:Int):k<=(d.mk1 x k).2:=by
 cases d with
 | l s n f g u=>exact(h.1 _ _).1
 | _=>exact Int.le_add_one (Int.le_refl _)
theorem DT:∀ {r:List (Fe α)},Laws r->∀ (x:α) (k:Int),k<=(mkA r x k).2
 | [],_,x,k=>Int.le_refl _
 | d::r,h,x,k=>Int.le_trans (He h.1 x k) (DT h.2.2 _ _)
theorem Qv:∀ {r:List (Fe α)},Laws r->Abf r=true->∀ (x:α) (k:Int),k+1<=(mkA r x k).2
 | d::r,h,hp,x,k=>by
  have h2:=DT h.2.2 (d.mk1 x k).1 (d.mk1 x k).2;cases d with
  | l s n f g u=>exact Int.le_trans (Int.add_le_add_right (He h.1 x k) 1) (Qv h.2.2 hp _ _)
  | _=>exact h2
theorem Nd {d:Fe α}:∀ {r:List (Fe α)},Agm d r->∀ (x:α) (k:Int),d.same (mkA r x k).1 x
 | [],_,x,k=>by cases d<;>rfl
 | e::r,h,x,k=>Fe.same_trans (Nd h.2.2 _ _) (h.1 x k)
theorem AbM {d:Fe α} (h:d.law) {x:α} {k:Int} (hv:d.isv x k):(d.mk1 x k).1=x:=by
 cases d with
 | s g u=>show u x (JE k)=x;rw[<-(hv:g x=JE k)];exact h.2 x
 | i g u=>
  show u x k=x;have hv:g x=k:=hv
  conv=>lhs;rw[<-hv]
  exact h.2 x
 | b g u=>show u x (k.tmod 3==0)=x;rw[<-(hv:g x=(k.tmod 3==0))];exact h.2 x
 | l s n f g u=>show u x (f (g x) k).1=x;rw[(hv:(f (g x) k).1=g x)];exact h.2.2 x
theorem AbS {d:Fe α} (h:d.law) {x y:α} {k:Int} (hs:d.same y (d.mk1 x k).1):d.isv y k/\(d.mk1 y k).2=(d.mk1 x k).2:=by
 cases d with
 | s g u=>exact⟨(hs:g y=g (u x (JE k))).trans (h.1 _ _),rfl⟩
 | i g u=>exact⟨(hs:g y=g (u x k)).trans (h.1 _ _),rfl⟩
 | b g u=>exact⟨(hs:g y=g (u x (k.tmod 3==0))).trans (h.1 _ _),rfl⟩
 | l s n f g u=>
  have e:g y=(f (g x) k).1:=(hs:g y=g (u x (f (g x) k).1)).trans (h.2.1 _ _);have e2:=(h.1 (g x) k).2.2;rw[<-e] at e2;refine⟨?_,?_⟩
  ·show(f (g y) k).1=g y;rw[e2,e]
  ·show(f (g y) k).2=(f (g x) k).2;rw[e2]
theorem Ss {d:Fe α} {r:List (Fe α)} (h:Laws (d::r)) {x:α} {k:Int} (hx:(mkA (d::r) x k).1=x):d.isv x k/\(d.mk1 x k).1=x/\(mkA r x (d.mk1 x k).2).1=x:=by
 have hs:=Nd h.2.1 (d.mk1 x k).1 (d.mk1 x k).2;have hx':(mkA r (d.mk1 x k).1 (d.mk1 x k).2).1=x:=hx;rw[hx'] at hs;have hv:=(AbS h.1 hs).1;have e:=AbM h.1 hv;rw[e] at hx';exact⟨hv,e,hx'⟩
theorem Nl:∀ {r:List (Fe α)},Laws r->∀ (x:α) (k:Int),mkA r (mkA r x k).1 k=mkA r x k
 | [],_,x,k=>rfl
 | d::r,h,x,k=>by have hs:=Nd h.2.1 (d.mk1 x k).1 (d.mk1 x k).2;obtain⟨hv,e2⟩:=AbS h.1 hs;have e:=AbM h.1 hv;have ih:=Nl h.2.2 (d.mk1 x k).1 (d.mk1 x k).2;show mkA r (d.mk1 (mkA r (d.mk1 x k).1 (d.mk1 x k).2).1 k).1 (d.mk1 (mkA r (d.mk1 x k).1 (d.mk1 x k).2).1 k).2=mkA r (d.mk1 x k).1 (d.mk1 x k).2;rw[e,e2,ih]
theorem Xw {d:Fe α} {x y:α} (h:d.same x y):d.cost x=d.cost y:=by
 cases d with
 | l s n f g u=>show 64*n (g x)=64*n (g y);rw[(h:g x=g y)]
 | _=>rfl
theorem Afs {d:Fe α} (h:d.law) (x:α) (k:Int):(d.mk1 x k).2<=k+d.cost x:=by
 cases d with
 | l s n f g u=>have:=(h.1 (g x) k).2.1;show(f (g x) k).2<=k+((64*n (g x):Nat):Int);omega
 | _=>exact Int.le_refl _
theorem ME {d:Fe α}:∀ {r:List (Fe α)},Agm d r->∀ (x:α) (k:Int),D6 r (d.mk1 x k).1=D6 r x
 | [],_,_,_=>rfl
 | e::r,h,x,k=>by show e.cost _+D6 r _=e.cost _+D6 r _;rw[Xw (h.2.1 x k),ME h.2.2 x k]
theorem YM:∀ {r:List (Fe α)},Laws r->∀ (x:α) (k:Int),(mkA r x k).2<=k+D6 r x
 | [],_,x,k=>by show k<=k+((0:Nat):Int);omega
 | d::r,h,x,k=>by have h1:=Afs h.1 x k;have h2:=YM h.2.2 (d.mk1 x k).1 (d.mk1 x k).2;rw[ME h.2.1] at h2;show(mkA r (d.mk1 x k).1 (d.mk1 x k).2).2<=k+((d.cost x+D6 r x:Nat):Int);omega
theorem bdV {n:α->Nat} {ds:List (Fe α)} (h:Laws ds) (hc:∀ x,D6 ds x<=64*n x):Bd n (mkA ds):=fun x k=>⟨DT h x k,by have:=YM h x k;have:=hc x;omega,Nl h x k⟩
theorem bdL {n:α->Nat} {ds:List (Fe α)} (h:Laws ds) (hc:∀ x,D6 ds x<=64*(n x+1)):Bd (szL n) (Ao (mkA ds)):=fun l k=>
 ⟨IS (fun x k=>DT h x k) l k,U0 (fun x k=>by have:=YM h x k;have:=hc x;omega) l k,Tz (fun x k=>Nl h x k) l k⟩
end
section
variable {P:Program} {E:Env} {m:Nat} {fn:Func} {t:Ty} {s:Sh}
def mkF (s:Sh) (f:s.X->Int->s.X×Int):MS:=⟨s,fun(x:s.X) (k:Int)=>0<=k/\(f x k).2<=4000000000000000000,f⟩
def heF (s:Sh) (f:s.X->Int->s.X×Int):Fct:=⟨[.v s,aI],[rI],fun(x:s.X×Int×Unit)=>0<=x.2.1/\(f x.1 x.2.1).2<=4000000000000000000/\(f x.1 x.2.1).1=x.1,fun(x:s.X×Int×Unit)=>((f x.1 x.2.1).2,())⟩
def obI (b:Bool) (X:Out):Out:=match b with
 | true=>.ob (Value.int .i64 0=Value.int .i64 0) X
 | false=>X
def mkC (t:Ty) (v:Bool) (bk:Int×Int×List (El t)×PUnit->Prop):List (Fe (El t))->Int->List (El t)->Int->Out
 | [],i,l,k=>obI v<|.ob (bk (k,(w1 i,(l,())))) .ok
 | .s g u::r,i,l,k=>.cl FN (k,()) fun z=>.ob (inB i l.length)<|.ob (i.toNat<l.length)<|.lt (List (El t)) (l.modify i.toNat fun a=>u a z.1) fun l'=>mkC t v bk r i l' (w1 k)
 | .i g u::r,i,l,k=>.ob (inB i l.length)<|.ob (i.toNat<l.length)<|.lt (List (El t)) (l.modify i.toNat fun a=>u a k) fun l'=>mkC t v bk r i l' (w1 k)
 | .b g u::r,i,l,k=>.ob ((3:Int)≠0)<|.ob (inB i l.length)<|.ob (i.toNat<l.length)<|.lt (List (El t)) (l.modify i.toNat fun a=>u a (k.tmod 3==0)) fun l'=>mkC t v bk r i l' (w1 k)
 | .l s n f g u::r,i,l,k=>.ob (inB i l.length)<|.ob (i.toNat<l.length)<|.ob ((mkF s f).pre (g (l.getD i.toNat default)) k)<|.lt (s.X×Int) ((mkF s f).fn (g (l.getD i.toNat default)) k) fun z=>.lt (List (El t)) (l.modify i.toNat fun a=>u a z.1) fun l'=>mkC t v bk r i l' z.2
theorem Kv {k:Int} (h0:0<=k) (h1:k<=4000000000000000000):w1 k=k+1:=Ah ⟨by omega,by omega⟩
theorem AfV {v:Bool} {bk:Int×Int×List (El t)×PUnit->Prop} {Q:Post} {A R:List (El t)} {i:Int} (h0:0<=i) (hA:A.length=i.toNat) :
 ∀ (ds:List (Fe (El t))) (x:El t) (k:Int),Laws ds->0<=k->(mkA ds x k).2<=4000000000000000000->bk ((mkA ds x k).2,(w1 i,(A++(mkA ds x k).1::R,())))->(mkC t v bk ds i (A++x::R) k).holds Q
 | [],x,k,_,_,_,hb=>by cases v<;>first|exact Aa hb fun _=>trivial|exact Aa rfl fun _=>Aa hb fun _=>trivial
 | d::r,x,k,hl,hk,hm,hb=>by
  have hin:inB i (A++x::R).length:=⟨h0,by simp only[Qa4,Qa6];omega⟩;have hlt:i.toNat<(A++x::R).length:=by simp only[Qa4,Qa6];omega
  have hmo:=DT hl.2.2 (d.mk1 x k).1 (d.mk1 x k).2;have hm':(mkA r (d.mk1 x k).1 (d.mk1 x k).2).2<=4000000000000000000:=hm;have h1:=He hl.1 x k;have ih:=AfV (v:=v) (Q:=Q) h0 hA r (d.mk1 x k).1 (d.mk1 x k).2 hl.2.2 (by omega) hm' hb;have hw:w1 k=k+1:=Kv hk (by omega);cases d with
  | s g u=>
   refine Af ⟨hk,by show k<=_;omega⟩ fun _=>Aa hin fun _=>Aa hlt fun _=>Du ?_
   show(mkC t v bk r i ((A++x::R).modify i.toNat fun a=>u a (JE k)) (w1 k)).holds Q;rw[Hw hA,hw];exact ih
  | i g u=>
   refine Aa hin fun _=>Aa hlt fun _=>Du ?_
   rw[Hw hA,hw];exact ih
  | b g u=>
   refine Aa (by decide) fun _=>Aa hin fun _=>Aa hlt fun _=>Du ?_
   rw[Hw hA,hw];exact ih
  | l s n f g u=>
   refine Aa hin fun _=>Aa hlt fun _=>?_
   rw[getD_at hA];refine Aa ⟨hk,by show(f (g x) k).2<=_;exact Int.le_trans hmo hm'⟩ fun _=>Du (Du ?_)
   show(mkC t v bk r i ((A++x::R).modify i.toNat fun a=>u a (f (g x) k).1) (f (g x) k).2).holds Q;rw[Hw hA];exact ih
def mkX (t:Ty) (f:El t->Int->El t×Int) (v:Bool) (ds:List (Fe (El t))) (l:List (El t)) (k:Int):Out :=
 lpx (AgJ t f l k) (k,((0:Int),(l,()))) fun(y1:Int×Int×List (El t)×PUnit) bk1=>
  .br (decide (y1.2.1<(y1.2.2.1.length:Int))) (mkC t v bk1 ds y1.2.1 y1.2.2.1 y1.1) (.leaf (.one false [vi y1.1]) [] [((0:Nat),⟨t,y1.2.2.1⟩)])
theorem AgQ {v:Bool} {ds:List (Fe (El t))} (hl:Laws ds) {l:List (El t)} {k:Int} (hp:0<=k/\(Ao (mkA ds) l k).2<=4000000000000000000) (hlen:l.length<=4000000000000000000):(mkX t (mkA ds) v ds l k).holds ((mkF (.sl t) (Ao (mkA ds))).ctr l k).post:=by
 refine Ay ⟨by simp,by simp,by simp[Ao],by simp[Ao]⟩ fun(y1:Int×Int×List (El t)×PUnit) i1=>Ab (fun h2=>?_) (fun h2=>?_)
 all_goals have i3:0<=y1.2.1/\y1.2.1<=l.length/\y1.1=(Ao (mkA ds) (l.take y1.2.1.toNat) k).2/\y1.2.2.1=(Ao (mkA ds) (l.take y1.2.1.toNat) k).1++l.drop y1.2.1.toNat:=i1
 all_goals have hx:y1.2.2.1.length=l.length:=by rw[i3.2.2.2,Qa4,JY,Qc5,Qe2];omega
 all_goals simp only[Qa9,Qb2,hx] at h2
 all_goals clear i1
 ·have hlt:y1.2.1.toNat<l.length:=by omega
  have ht:=I6 (f:=mkA ds) hlt k;have hle:=(EF (f:=mkA ds) (fun x k=>DT hl x k) l (y1.2.1.toNat+1) k).2;have hl0:=(EF (f:=mkA ds) (fun x k=>DT hl x k) l y1.2.1.toNat k).1;have hA:(Ao (mkA ds) (l.take y1.2.1.toNat) k).1.length=y1.2.1.toNat:=by rw[JY,Qc5];omega
  rw[ht] at hle;rw[<-i3.2.2.1] at hle hl0 ht;rw[i3.2.2.2,drop_cons hlt];refine AfV i3.1 hA ds _ _ hl (by omega) (Int.le_trans hle hp.2) ⟨⟨?_,?_,?_,?_⟩,?_⟩
  ·show 0<=w1 y1.2.1;rw[Kv i3.1 (by omega)];omega
  ·show w1 y1.2.1<=_;rw[Kv i3.1 (by omega)];omega
  ·show(mkA ds _ y1.1).2=(Ao (mkA ds) (l.take (w1 y1.2.1).toNat) k).2;rw[Kv i3.1 (by omega),toNat1 i3.1,ht]
  ·show _=(Ao (mkA ds) (l.take (w1 y1.2.1).toNat) k).1++l.drop (w1 y1.2.1).toNat;rw[Kv i3.1 (by omega),toNat1 i3.1,ht];simp
  ·show l.length-(w1 y1.2.1).toNat<l.length-y1.2.1.toNat;rw[Kv i3.1 (by omega),toNat1 i3.1];omega
 ·refine MS.leafL (t:=t) (fn:=fun l k=>Ao (mkA ds) l k) ?_;have e1:l.take y1.2.1.toNat=l:=Qb6 (by omega);have e2:l.drop y1.2.1.toNat=[]:=Qb9 (by omega);rw[i3.2.2.2,i3.2.2.1,e1,e2,Qd7]
theorem mkS {ds:List (Fe (El t))} (kp:List Nat) (v:Bool) (hl:Laws ds) (hE:EOk P E) (hf:P.funcs[m]? = some fn)
 (h:∀ l k,Ft P E (fun|2=>some (AgJ t (mkA ds) l k)|_=>none) kp [0] fn ((mkF (.sl t) (Ao (mkA ds))).arg l k)=mkX t (mkA ds) v ds l k)
 (hc:(fn.body.isSome&&decide (2<=fn.ntmps)&&Abf ds)=true:=by kernel_rfl):(mkF (.sl t) (Ao (mkA ds))).ok P m:=by
 rw[Qa1,Qa1] at hc;refine MS.of (S:=mkF (.sl t) (Ao (mkA ds))) (L:=fun l k=>fun|2=>some (AgJ t (mkA ds) l k)|_=>none) hE hf hc.1.1 hc.1.2 fun l k hx=>⟨(h l k)▸AgQ hl hx ?_⟩
 have h1:0<=k/\(Ao (mkA ds) l k).2<=4000000000000000000:=hx;have:=Pp (f:=mkA ds) (Qv hl hc.2) l k;omega
def heC (t:Ty) (f:El t->Int->El t×Int) (l:List (El t)) (bk:Int×Int×PUnit->Prop):List (Fe (El t))->Int->Int->Out
 | [],i,k=>.ob (l=l)<|.ob (bk (k,(w1 i,()))) .ok
 | .s g u::r,i,k=>.ob (inB i l.length)<|.cl FN (k,()) fun z=>.br (!(g (l.getD i.toNat default)).toList==z.1.toList) (.lf (heF (.sl t) (Ao f)) ((-1:Int),())) (heC t f l bk r i (w1 k))
 | .i g u::r,i,k=>.ob (inB i l.length)<|.br (g (l.getD i.toNat default) != k) (.lf (heF (.sl t) (Ao f)) ((-1:Int),())) (heC t f l bk r i (w1 k))
 | .b g u::r,i,k=>.ob (inB i l.length)<|.ob ((3:Int)≠0)<|.br (!g (l.getD i.toNat default)==(k.tmod 3==0)) (.lf (heF (.sl t) (Ao f)) ((-1:Int),())) (heC t f l bk r i (w1 k))
 | .l s n f' g u::r,i,k=>.ob (inB i l.length)<|.cl (heF s f') (g (l.getD i.toNat default),k,()) fun z=>.br (decide (z.1<0)) (.lf (heF (.sl t) (Ao f)) ((-1:Int),())) (heC t f l bk r i z.1)
theorem AfW {f:El t->Int->El t×Int} {l:List (El t)} {bk:Int×Int×PUnit->Prop} {Q:Post} {i:Int} (hi:inB i l.length) {x:El t} (hx:l.getD i.toNat default=x) :
 ∀ (ds:List (Fe (El t))) (k:Int),Laws ds->0<=k->(mkA ds x k).2<=4000000000000000000->(mkA ds x k).1=x->bk ((mkA ds x k).2,(w1 i,()))->(heC t f l bk ds i k).holds Q
 | [],k,_,_,_,_,hb=>Aa rfl fun _=>Aa hb fun _=>trivial
 | d::r,k,hl,hk,hm,he,hb=>by
  obtain⟨hv,hd1,he2⟩:=Ss hl he;have hmo:=DT hl.2.2 (d.mk1 x k).1 (d.mk1 x k).2;have hm':(mkA r (d.mk1 x k).1 (d.mk1 x k).2).2<=4000000000000000000:=hm;have h1:=He hl.1 x k;have hk4:k<=4000000000000000000:=by omega
  have hw:w1 k=k+1:=Kv hk hk4;have hb':bk ((mkA r (d.mk1 x k).1 (d.mk1 x k).2).2,(w1 i,())):=hb;rw[hd1] at hm' hb' hmo;have ih:=AfW (f:=f) (Q:=Q) hi hx r (d.mk1 x k).2 hl.2.2 (by omega) hm' he2 hb';cases d with
  | s g u=>
   have hv:g x=JE k:=hv;refine Aa hi fun _=>Af ⟨hk,hk4⟩ fun _=>Ab (fun hc=>?_) (fun _=>?_)
   ·rw[hx,hv] at hc;exact absurd hc (by show ¬ ((!(JE k).toList==(JE k).toList)=true);simp)
   ·rw[hw];exact ih
  | i g u=>
   have hv:g x=k:=hv;refine Aa hi fun _=>Ab (fun hc=>?_) (fun _=>?_)
   ·rw[hx,hv] at hc;simp at hc
   ·rw[hw];exact ih
  | b g u=>
   have hv:g x=(k.tmod 3==0):=hv;refine Aa hi fun _=>Aa (by decide) fun _=>Ab (fun hc=>?_) (fun _=>?_)
   ·rw[hx,hv] at hc;simp at hc
   ·rw[hw];exact ih
  | l s n f' g u=>
   have hv:(f' (g x) k).1=g x:=hv;refine Aa hi fun _=>?_
   rw[hx];refine Af ⟨hk,Int.le_trans hmo hm',hv⟩ fun _=>Ab (fun hc=>?_) (fun _=>ih)
   have hc:decide ((f' (g x) k).2<0)=true:=hc;simp only[Qa9] at hc;have h1:k<=(f' (g x) k).2:=h1;omega
def heX (t:Ty) (f:El t->Int->El t×Int) (ds:List (Fe (El t))) (l:List (El t)) (k:Int):Out :=
 lpx (Ahd t f l k) (k,((0:Int),())) fun(y1:Int×Int×PUnit) bk1=>
  .br (decide (y1.2.1<(l.length:Int))) (heC t f l bk1 ds y1.2.1 y1.1) (.lf (heF (.sl t) (Ao f)) (y1.1,()))
theorem Ag0 {ds:List (Fe (El t))} (hl:Laws ds) {l:List (El t)} {k:Int} (hp:0<=k/\(Ao (mkA ds) l k).2<=4000000000000000000/\(Ao (mkA ds) l k).1=l) (hlen:l.length<=4000000000000000000):(heX t (mkA ds) ds l k).holds ((heF (.sl t) (Ao (mkA ds))).ctr (l,k,())).post:=by
 refine Ay ⟨by simp,by simp,by simp[Ao]⟩ fun(y1:Int×Int×PUnit) i1=>Ab (fun h2=>?_) (fun h2=>?_)
 all_goals have i3:0<=y1.2.1/\y1.2.1<=l.length/\y1.1=(Ao (mkA ds) (l.take y1.2.1.toNat) k).2:=i1
 all_goals simp only[Qa9,Qb2] at h2
 all_goals clear i1
 ·have hlt:y1.2.1.toNat<l.length:=by omega
  have ht:=I6 (f:=mkA ds) hlt k;have hle:=(EF (f:=mkA ds) (fun x k=>DT hl x k) l (y1.2.1.toNat+1) k).2;have hl0:=(EF (f:=mkA ds) (fun x k=>DT hl x k) l y1.2.1.toNat k).1;have heq:=TJ hp.2.2 hlt;rw[ht] at hle;rw[<-i3.2.2] at hle hl0 ht heq;refine AfW (show inB y1.2.1 l.length from⟨i3.1,h2⟩) rfl ds _ hl (by omega) (Int.le_trans hle hp.2.1) heq ⟨⟨?_,?_,?_⟩,?_⟩
  ·show 0<=w1 y1.2.1;rw[Kv i3.1 (by omega)];omega
  ·show w1 y1.2.1<=_;rw[Kv i3.1 (by omega)];omega
  ·show(mkA ds _ y1.1).2=(Ao (mkA ds) (l.take (w1 y1.2.1).toNat) k).2;rw[Kv i3.1 (by omega),toNat1 i3.1,ht]
  ·show l.length-(w1 y1.2.1).toNat<l.length-y1.2.1.toNat;rw[Kv i3.1 (by omega),toNat1 i3.1];omega
 ·have e1:l.take y1.2.1.toNat=l:=Qb6 (by omega);rw[e1] at i3;exact lfY (by show(y1.1,())=((Ao (mkA ds) l k).2,());rw[i3.2.2])
theorem heS {ds:List (Fe (El t))} (kp:List Nat) (hl:Laws ds) (hE:EOk P E) (hf:P.funcs[m]? = some fn)
 (h:∀ l k,Ft P E (fun|2=>some (Ahd t (mkA ds) l k)|_=>none) kp [] fn ((heF (.sl t) (Ao (mkA ds))).arg (l,k,()))=heX t (mkA ds) ds l k)
 (hc:(fn.body.isSome&&decide (2<=fn.ntmps)&&Abf ds)=true:=by kernel_rfl):(heF (.sl t) (Ao (mkA ds))).ok P m:=by
 rw[Qa1,Qa1] at hc;refine Fct.of (S:=heF (.sl t) (Ao (mkA ds))) (L:=fun x=>fun|2=>some (Ahd t (mkA ds) x.1 x.2.1)|_=>none) (kp:=kp) hE hf hc.1.1 hc.1.2 ?_;rintro⟨(l:List (El t)),(k:Int),_⟩ hx;refine⟨(h l k)▸Ag0 hl hx ?_⟩;have h1:0<=k/\(Ao (mkA ds) l k).2<=4000000000000000000/\(Ao (mkA ds) l k).1=l:=hx;have:=Pp (f:=mkA ds) (Qv hl hc.2) l k;omega
def mvC (s:Sh):List (Fe s.X)->s.X->Int->Out
 | [],x,k=>.leaf (.one false [vi k]) [] (D8 0 (s.fc x))
 | .l s' n f g u::r,x,k=>.ob ((mkF s' f).pre (g x) k)<|.lt (s'.X×Int) ((mkF s' f).fn (g x) k) fun z=>mvC s r (u x z.1) z.2
 | _::_,_,_=>.bad
def AfE {α:Type}:List (Fe α)->Bool
 | []=>true
 | .l ..::r=>AfE r
 | _::_=>false
theorem Afj {Q:Post}:∀ (ds:List (Fe s.X)) (x:s.X) (k:Int),Laws ds->AfE ds=true->0<=k->(mkA ds x k).2<=4000000000000000000->(Out.leaf (.one false [vi (mkA ds x k).2]) [] (D8 0 (s.fc (mkA ds x k).1))).holds Q->(mvC s ds x k).holds Q
 | [],x,k,_,_,_,_,h=>h
 | .l s' n f g u::r,x,k,hl,hs,hk,hm,h=>by have hmo:=DT hl.2.2 (u x (f (g x) k).1) (f (g x) k).2;have h1:k<=(f (g x) k).2:=He hl.1 x k;exact Aa ⟨hk,Int.le_trans hmo hm⟩ fun _=>Du (Afj r _ _ hl.2.2 hs (by show 0<=(f (g x) k).2;omega) hm h)
theorem mvT {ds:List (Fe s.X)} (kp kl:List Nat) (hl:Laws ds) (hE:EOk P E) (hf:P.funcs[m]? = some fn)
 (h:∀ x k,Ft P E (fun _=>none) kp kl fn ((mkF s (mkA ds)).arg x k)=mvC s ds x k)
 (hc:(fn.body.isSome&&decide (2<=fn.ntmps)&&AfE ds)=true:=by kernel_rfl):(mkF s (mkA ds)).ok P m:=by
 rw[Qa1,Qa1] at hc;exact MS.of (S:=mkF s (mkA ds)) (L:=fun _ _ _=>none) (kp:=kp) (kl:=kl) hE hf hc.1.1 hc.1.2 fun x k hx=>⟨(h x k)▸Afj ds x k hl hc.2 hx.1 hx.2 (MS.leaf ⟨Ev _,trivial,rfl⟩)⟩
def hvC (s:Sh) (f:s.X->Int->s.X×Int):List (Fe s.X)->s.X->Int->Out
 | [],x,k=>.lf (heF s f) (k,())
 | .l s' n f' g u::r,x,k=>.cl (heF s' f') (g x,k,()) fun z=>.br (decide (z.1<0)) (.lf (heF s f) ((-1:Int),())) (hvC s f r x z.1)
 | _::_,_,_=>.bad
theorem AfL {Q:Post} {f:s.X->Int->s.X×Int} {x:s.X}:∀ (ds:List (Fe s.X)) (k:Int),Laws ds->AfE ds=true->0<=k->(mkA ds x k).2<=4000000000000000000->(mkA ds x k).1=x->(Out.lf (heF s f) ((mkA ds x k).2,())).holds Q->(hvC s f ds x k).holds Q
 | [],k,_,_,_,_,_,h=>h
 | .l s' n f' g u::r,k,hl,hs,hk,hm,he,h=>by
  obtain⟨hv,hd1,he2⟩:=Ss hl he;have hv:(f' (g x) k).1=g x:=hv;have hd1:u x (f' (g x) k).1=x:=hd1;have hm:(mkA r (u x (f' (g x) k).1) (f' (g x) k).2).2<=4000000000000000000:=hm;have h:(Out.lf (heF s f) ((mkA r (u x (f' (g x) k).1) (f' (g x) k).2).2,())).holds Q:=h;rw[hd1] at hm h;have hmo:=DT hl.2.2 x (f' (g x) k).2;have h1:k<=(f' (g x) k).2:=He hl.1 x k;refine Af ⟨hk,Int.le_trans hmo hm,hv⟩ fun _=>Ab (fun hc=>?_) (fun _=>AfL r _ hl.2.2 hs (by show 0<=(f' (g x) k).2;omega) hm he2 h)
  have hc:decide ((f' (g x) k).2<0)=true:=hc;simp only[Qa9] at hc;omega
theorem hvT {ds:List (Fe s.X)} (kp:List Nat) (hl:Laws ds) (hE:EOk P E) (hf:P.funcs[m]? = some fn)
 (h:∀ x k,Ft P E (fun _=>none) kp [] fn ((heF s (mkA ds)).arg (x,k,()))=hvC s (mkA ds) ds x k)
 (hc:(fn.body.isSome&&decide (2<=fn.ntmps)&&AfE ds)=true:=by kernel_rfl):(heF s (mkA ds)).ok P m:=by
 rw[Qa1,Qa1] at hc;exact Fct.of (S:=heF s (mkA ds)) (L:=fun _ _=>none) (kp:=kp) hE hf hc.1.1 hc.1.2 fun x hx=>⟨(h x.1 x.2.1)▸AfL ds x.2.1 hl hc.2 hx.1 hx.2.1 hx.2.2 (lfY rfl)⟩
end
end Go.D
namespace Go.D
set_option linter.unusedSimpArgs false
set_option maxRecDepth 100000
set_option maxHeartbeats 2000000
def szAddr (x:SAddr):Nat:=x.host.size+x.path.size
def A3 (x:SAttr):Nat:=x.name.size+x.value.size
def Aj (x:SToken):Nat:=x.name.size+szL A3 x.bo+x.text.size
def BX (x:STokenizer):Nat:=x.rest.size
def szNode (x:SNode):Nat:=x.name.size+x.text.size+szL A3 x.bo
def szBuilder (x:SBuilder):Nat:=szL szNode x.bi+x.bl.length
def Lf (x:SRule):Nat:=x.name.size
def Dt (x:SSheet):Nat:=szL Lf x.rules
def CW (x:SLine):Nat:=x.text.size
def szPolicy (x:SPolicy):Nat:=szL Ac x.bp+szL Ac x.styles+szL Ac x.images+x.nonce.size
def Ae (x:SResponse):Nat:=x.body.size+x.bj.size
def szRequest (x:SRequest):Nat:=szAddr x.to+x.from_.size+x.digest.size
def D2 (x:SFile):Nat:=x.path.size+Ae x.bd
def AW (x:SServer):Nat:=x.host.size+szL D2 x.files
def AK (x:SEntry):Nat:=x.top.size+szAddr x.to+Ae x.bd
def szCache (x:SCache):Nat:=szL AK x.bg
def Dk (x:SSent):Nat:=x.top.size+szAddr x.to
def szNet (x:SNet):Nat:=szL AW x.servers+szCache x.cache+szL Dk x.log
def AF (x:SSlot):Nat:=szAddr x.to+x.digest.size+x.body.size
def Aq (x:SModule):Nat:=szAddr x.to+x.body.size
def szPage (x:SPage):Nat:=szAddr x.addr+szPolicy x.bj+BX x.tok+szL Aj x.bn+szBuilder x.ba+szL AF x.bf+szL Aq x.bh+szL szAddr x.bg+szL szAddr x.ran+szL Ac x.log
def CO (x:SGuess):Nat:=szAddr x.to+Ae x.bd
def DI (x:SConn):Nat:=szAddr x.to+Ae x.bd
def De (x:SLoader):Nat:=szNet x.net+szPage x.page+szL Ac x.parts+szL DI x.conns+szL CO x.guesses
theorem Ae3 (x:SAddr):(⟨x.host,x.path⟩:SAddr)=x:=rfl
theorem ZC (x:SToken):(⟨x.kind,x.name,x.bo,x.text⟩:SToken)=x:=rfl
theorem AdA (x:SNode):(⟨x.name,x.text,x.parent,x.bo⟩:SNode)=x:=rfl
theorem UA (x:SBuilder):(⟨x.bi,x.bl⟩:SBuilder)=x:=rfl
theorem Y2 (x:SSheet):(⟨x.rules⟩:SSheet)=x:=rfl
theorem YL (x:SPolicy):(⟨x.set_,x.bp,x.styles,x.images,x.nonce⟩:SPolicy)=x:=rfl
theorem RO (x:SResponse):(⟨x.status,x.kind,x.body,x.age,x.shares,x.bj⟩:SResponse)=x:=rfl
theorem T9 (x:SRequest):(⟨x.kind,x.to,x.from_,x.digest⟩:SRequest)=x:=rfl
theorem Aev (x:SFile):(⟨x.path,x.bd⟩:SFile)=x:=rfl
theorem Xl (x:SServer):(⟨x.host,x.files⟩:SServer)=x:=rfl
theorem Aal (x:SEntry):(⟨x.top,x.to,x.bd,x.until_⟩:SEntry)=x:=rfl
theorem Aat (x:SCache):(⟨x.bg⟩:SCache)=x:=rfl
theorem Ad7 (x:SSent):(⟨x.top,x.to,x.guess⟩:SSent)=x:=rfl
theorem AfG (x:SNet):(⟨x.servers,x.cache,x.log,x.now⟩:SNet)=x:=rfl
theorem AeX (x:SSlot):(⟨x.mode,x.to,x.digest,x.node,x.done,x.code,x.body⟩:SSlot)=x:=rfl
theorem XJ (x:SModule):(⟨x.to,x.done,x.code,x.body⟩:SModule)=x:=rfl
theorem Aeb (x:SPage):(⟨x.addr,x.bj,x.tok,x.bn,x.ended,x.ba,x.bf,x.bh,x.bg,x.block,x.inline,x.bm,x.bq,x.ran,x.log,x.loaded⟩:SPage)=x:=rfl
theorem Yk (x:SResult):(⟨x.ba,x.log,x.verdicts,x.sheet,x.loaded⟩:SResult)=x:=rfl
theorem Zp (x:SGuess):(⟨x.to,x.bd,x.used⟩:SGuess)=x:=rfl
theorem Aek (x:SConn):(⟨x.to,x.left,x.guess,x.bd⟩:SConn)=x:=rfl
theorem YC (x:SLoader):(⟨x.net,x.page,x.parts,x.conns,x.guesses⟩:SLoader)=x:=rfl
theorem Z3 (x:SVisit):(⟨x.addr,x.page,x.kept⟩:SVisit)=x:=rfl
theorem Afe (x:STab):(⟨x.visits,x.at_⟩:STab)=x:=rfl
theorem AfP (x y:ByteArray):(x==y)=decide (x=y):=by
 rw[Bool.eq_iff_iff,Qa9];constructor
 ·intro h;have h':(x.data==y.data)=true:=h;cases x;cases y;simpa using h'
 ·rintro rfl;show(x.data==x.data)=true;simp
theorem DA (x y:SAddr):(x.host==y.host&&(x.path==y.path&&true))=decide (x=y):=by
 rw[Bool.eq_iff_iff];cases x;cases y;simp[AfP]
def Q1:List (Fe ByteArray):=[.s (fun x=>x) fun _ v=>v]
def Fc:ByteArray->Int->ByteArray×Int:=mkA Q1
theorem Kj:Laws Q1:=by repeat' first|exact fun _ _=>rfl|exact fun _=>rfl|constructor
theorem GZ:Bd (szL Ac) (Ao Fc):=bdL Kj (fun x=>by simp only[D6,Fe.cost,Q1];omega)
def Agv:List (Fe Int):=[.i (fun x=>x) fun _ v=>v]
def Aa3:Int->Int->Int×Int:=mkA Agv
theorem Wh:Laws Agv:=by repeat' first|exact fun _ _=>rfl|exact fun _=>rfl|constructor
theorem V9:Bd List.length (Ao Aa3):=fun l k=>by
 have h:=bdL (n:=fun _=>0) Wh (fun x=>by simp only[D6,Fe.cost,Agv];omega) l k;have e:∀ l:List Int,szL (fun _=>0) l=l.length:=fun l=>by
  induction l with
  | nil=>rfl
  | cons a l ih=>simp only[szL,Qc9,List.sum_cons,Qa6] at *;omega
 rw[e] at h;exact h
def Ad9:List (Fe SAddr):=[.s (fun x=>x.host) fun x v=>{x with host:=v},.s (fun x=>x.path) fun x v=>{x with path:=v}]
def OC:SAddr->Int->SAddr×Int:=mkA Ad9
theorem RN:Laws Ad9:=by repeat' first|exact fun _ _=>rfl|exact fun _=>rfl|constructor
theorem U3:Bd (szL szAddr) (Ao OC):=bdL RN (fun x=>by simp only[D6,Fe.cost,Ad9,szAddr];omega)
def Ad6:List (Fe SAttr):=[.s (fun x=>x.name) fun x v=>{x with name:=v},.s (fun x=>x.value) fun x v=>{x with value:=v}]
def Oy:SAttr->Int->SAttr×Int:=mkA Ad6
theorem Q9:Laws Ad6:=by repeat' first|exact fun _ _=>rfl|exact fun _=>rfl|constructor
theorem Mi:Bd (szL A3) (Ao Oy):=bdL Q9 (fun x=>by simp only[D6,Fe.cost,Ad6,A3];omega)
def Yy:List (Fe SToken):=[.i (fun x=>x.kind) fun x v=>{x with kind:=v},.s (fun x=>x.name) fun x v=>{x with name:=v},.l (.sl .attr) (szL A3) (Ao Oy) (fun x=>x.bo) fun x v=>{x with bo:=v},.s (fun x=>x.text) fun x v=>{x with text:=v}]
def NV:SToken->Int->SToken×Int:=mkA Yy
theorem Of:Laws Yy:=by repeat' first|exact fun _ _=>rfl|exact fun _=>rfl|exact Mi|constructor
theorem Qt:Bd (szL Aj) (Ao NV):=bdL Of (fun x=>by simp only[D6,Fe.cost,Yy,Aj];omega)
def Ae8:List (Fe SNode):=[.s (fun x=>x.name) fun x v=>{x with name:=v},.s (fun x=>x.text) fun x v=>{x with text:=v},.i (fun x=>x.parent) fun x v=>{x with parent:=v},.l (.sl .attr) (szL A3) (Ao Oy) (fun x=>x.bo) fun x v=>{x with bo:=v}]
def SC:SNode->Int->SNode×Int:=mkA Ae8
theorem Ri:Laws Ae8:=by repeat' first|exact fun _ _=>rfl|exact fun _=>rfl|exact Mi|constructor
theorem Tc:Bd (szL szNode) (Ao SC):=bdL Ri (fun x=>by simp only[D6,Fe.cost,Ae8,szNode];omega)
def NG:List (Fe SBuilder):=[.l (.sl .node) (szL szNode) (Ao SC) (fun x=>x.bi) fun x v=>{x with bi:=v},.l (.sl .int) List.length (Ao Aa3) (fun x=>x.bl) fun x v=>{x with bl:=v}]
def Im:SBuilder->Int->SBuilder×Int:=mkA NG
theorem Jb:Laws NG:=by repeat' first|exact fun _ _=>rfl|exact fun _=>rfl|exact V9|exact Tc|constructor
theorem PB:Bd szBuilder Im:=bdV Jb (fun x=>by simp only[D6,Fe.cost,NG,szBuilder];omega)
def QY:List (Fe SPolicy):=[.l (.sl .str) (szL Ac) (Ao Fc) (fun x=>x.bp) fun x v=>{x with bp:=v},.l (.sl .str) (szL Ac) (Ao Fc) (fun x=>x.styles) fun x v=>{x with styles:=v},.l (.sl .str) (szL Ac) (Ao Fc) (fun x=>x.images) fun x v=>{x with images:=v}]
def JI:SPolicy->Int->SPolicy×Int:=mkA QY
theorem Kl:Laws QY:=by repeat' first|exact fun _ _=>rfl|exact fun _=>rfl|exact GZ|constructor
theorem Rw:Bd szPolicy JI:=bdV Kl (fun x=>by simp only[D6,Fe.cost,QY,szPolicy];omega)
def AeT:List (Fe SFile):=[.s (fun x=>x.path) fun x v=>{x with path:=v},.i (fun x=>x.bd.status) fun x v=>{x with bd:={x.bd with status:=v}},.i (fun x=>x.bd.kind) fun x v=>{x with bd:={x.bd with kind:=v}},.s (fun x=>x.bd.body) fun x v=>{x with bd:={x.bd with body:=v}},.i (fun x=>x.bd.age) fun x v=>{x with bd:={x.bd with age:=v}},.b (fun x=>x.bd.shares) fun x v=>{x with bd:={x.bd with shares:=v}},.s (fun x=>x.bd.bj) fun x v=>{x with bd:={x.bd with bj:=v}}]
def Sv:SFile->Int->SFile×Int:=mkA AeT
theorem Rc:Laws AeT:=by repeat' first|exact fun _ _=>rfl|exact fun _=>rfl|constructor
theorem Uz:Bd (szL D2) (Ao Sv):=bdL Rc (fun x=>by simp only[D6,Fe.cost,AeT,D2,Ae];omega)
def QS:List (Fe SServer):=[.s (fun x=>x.host) fun x v=>{x with host:=v},.l (.sl .file) (szL D2) (Ao Sv) (fun x=>x.files) fun x v=>{x with files:=v}]
def JN:SServer->Int->SServer×Int:=mkA QS
theorem Ka:Laws QS:=by repeat' first|exact fun _ _=>rfl|exact fun _=>rfl|exact Uz|constructor
theorem OG:Bd (szL AW) (Ao JN):=bdL Ka (fun x=>by simp only[D6,Fe.cost,QS,AW];omega)
def Ym:List (Fe SEntry):=[.s (fun x=>x.top) fun x v=>{x with top:=v},.s (fun x=>x.to.host) fun x v=>{x with to:={x.to with host:=v}},.s (fun x=>x.to.path) fun x v=>{x with to:={x.to with path:=v}},.i (fun x=>x.bd.status) fun x v=>{x with bd:={x.bd with status:=v}},.i (fun x=>x.bd.kind) fun x v=>{x with bd:={x.bd with kind:=v}},.s (fun x=>x.bd.body) fun x v=>{x with bd:={x.bd with body:=v}},.i (fun x=>x.bd.age) fun x v=>{x with bd:={x.bd with age:=v}},.b (fun x=>x.bd.shares) fun x v=>{x with bd:={x.bd with shares:=v}},.s (fun x=>x.bd.bj) fun x v=>{x with bd:={x.bd with bj:=v}},.i (fun x=>x.until_) fun x v=>{x with until_:=v}]
def Nc:SEntry->Int->SEntry×Int:=mkA Ym
theorem NL:Laws Ym:=by repeat' first|exact fun _ _=>rfl|exact fun _=>rfl|constructor
theorem QH:Bd (szL AK) (Ao Nc):=bdL NL (fun x=>by simp only[D6,Fe.cost,Ym,szAddr,AK,Ae];omega)
def V7:List (Fe SCache):=[.l (.sl .entry) (szL AK) (Ao Nc) (fun x=>x.bg) fun x v=>{x with bg:=v}]
def N9:SCache->Int->SCache×Int:=mkA V7
theorem NJ:Laws V7:=by repeat' first|exact fun _ _=>rfl|exact fun _=>rfl|exact QH|constructor
theorem Tb:Bd szCache N9:=bdV NJ (fun x=>by simp only[D6,Fe.cost,V7,szCache];omega)
def AdF:List (Fe SSent):=[.s (fun x=>x.top) fun x v=>{x with top:=v},.s (fun x=>x.to.host) fun x v=>{x with to:={x.to with host:=v}},.s (fun x=>x.to.path) fun x v=>{x with to:={x.to with path:=v}},.b (fun x=>x.guess) fun x v=>{x with guess:=v}]
def SB:SSent->Int->SSent×Int:=mkA AdF
theorem Q5:Laws AdF:=by repeat' first|exact fun _ _=>rfl|exact fun _=>rfl|constructor
theorem Tt:Bd (szL Dk) (Ao SB):=bdL Q5 (fun x=>by simp only[D6,Fe.cost,AdF,szAddr,Dk];omega)
def AgR:List (Fe SNet):=[.l (.sl .server) (szL AW) (Ao JN) (fun x=>x.servers) fun x v=>{x with servers:=v},.l (.el .cache) szCache N9 (fun x=>x.cache) fun x v=>{x with cache:=v},.l (.sl .sent) (szL Dk) (Ao SB) (fun x=>x.log) fun x v=>{x with log:=v}]
def Zk:SNet->Int->SNet×Int:=mkA AgR
theorem Vw:Laws AgR:=by repeat' first|exact fun _ _=>rfl|exact fun _=>rfl|exact Tt|exact OG|exact Tb|constructor
theorem AaT:Bd szNet Zk:=bdV Vw (fun x=>by simp only[D6,Fe.cost,AgR,szNet];omega)
def AcX:List (Fe SSlot):=[.i (fun x=>x.mode) fun x v=>{x with mode:=v},.s (fun x=>x.to.host) fun x v=>{x with to:={x.to with host:=v}},.s (fun x=>x.to.path) fun x v=>{x with to:={x.to with path:=v}},.s (fun x=>x.digest) fun x v=>{x with digest:=v},.i (fun x=>x.node) fun x v=>{x with node:=v},.b (fun x=>x.done) fun x v=>{x with done:=v},.i (fun x=>x.code) fun x v=>{x with code:=v},.s (fun x=>x.body) fun x v=>{x with body:=v}]
def SG:SSlot->Int->SSlot×Int:=mkA AcX
theorem QN:Laws AcX:=by repeat' first|exact fun _ _=>rfl|exact fun _=>rfl|constructor
theorem TG:Bd (szL AF) (Ao SG):=bdL QN (fun x=>by simp only[D6,Fe.cost,AcX,szAddr,AF];omega)
def RH:List (Fe SModule):=[.s (fun x=>x.to.host) fun x v=>{x with to:={x.to with host:=v}},.s (fun x=>x.to.path) fun x v=>{x with to:={x.to with path:=v}},.b (fun x=>x.done) fun x v=>{x with done:=v},.i (fun x=>x.code) fun x v=>{x with code:=v},.s (fun x=>x.body) fun x v=>{x with body:=v}]
def JH:SModule->Int->SModule×Int:=mkA RH
theorem Lz:Laws RH:=by repeat' first|exact fun _ _=>rfl|exact fun _=>rfl|constructor
theorem OF:Bd (szL Aq) (Ao JH):=bdL Lz (fun x=>by simp only[D6,Fe.cost,RH,szAddr,Aq];omega)
def Aey:List (Fe SPage):=[.l (.el .bj) szPolicy JI (fun x=>x.bj) fun x v=>{x with bj:=v},.l (.sl .token) (szL Aj) (Ao NV) (fun x=>x.bn) fun x v=>{x with bn:=v},.l (.el .ba) szBuilder Im (fun x=>x.ba) fun x v=>{x with ba:=v},.l (.sl .slot) (szL AF) (Ao SG) (fun x=>x.bf) fun x v=>{x with bf:=v},.l (.sl .module) (szL Aq) (Ao JH) (fun x=>x.bh) fun x v=>{x with bh:=v},.l (.sl .addr) (szL szAddr) (Ao OC) (fun x=>x.bg) fun x v=>{x with bg:=v},.l (.sl .addr) (szL szAddr) (Ao OC) (fun x=>x.ran) fun x v=>{x with ran:=v},.l (.sl .str) (szL Ac) (Ao Fc) (fun x=>x.log) fun x v=>{x with log:=v}]
def Sp:SPage->Int->SPage×Int:=mkA Aey
theorem QW:Laws Aey:=by repeat' first|exact fun _ _=>rfl|exact fun _=>rfl|exact U3|exact OF|exact TG|exact GZ|exact Qt|exact PB|exact Rw|constructor
theorem YF:Bd szPage Sp:=bdV QW (fun x=>by simp only[D6,Fe.cost,Aey,szPage];omega)
def W5:List (Fe SGuess):=[.s (fun x=>x.to.host) fun x v=>{x with to:={x.to with host:=v}},.s (fun x=>x.to.path) fun x v=>{x with to:={x.to with path:=v}},.i (fun x=>x.bd.status) fun x v=>{x with bd:={x.bd with status:=v}},.i (fun x=>x.bd.kind) fun x v=>{x with bd:={x.bd with kind:=v}},.s (fun x=>x.bd.body) fun x v=>{x with bd:={x.bd with body:=v}},.i (fun x=>x.bd.age) fun x v=>{x with bd:={x.bd with age:=v}},.b (fun x=>x.bd.shares) fun x v=>{x with bd:={x.bd with shares:=v}},.s (fun x=>x.bd.bj) fun x v=>{x with bd:={x.bd with bj:=v}},.b (fun x=>x.used) fun x v=>{x with used:=v}]
def NB:SGuess->Int->SGuess×Int:=mkA W5
theorem Nw:Laws W5:=by repeat' first|exact fun _ _=>rfl|exact fun _=>rfl|constructor
theorem QZ:Bd (szL CO) (Ao NB):=bdL Nw (fun x=>by simp only[D6,Fe.cost,W5,szAddr,CO,Ae];omega)
def AeA:List (Fe SConn):=[.s (fun x=>x.to.host) fun x v=>{x with to:={x.to with host:=v}},.s (fun x=>x.to.path) fun x v=>{x with to:={x.to with path:=v}},.i (fun x=>x.left) fun x v=>{x with left:=v},.b (fun x=>x.guess) fun x v=>{x with guess:=v},.i (fun x=>x.bd.status) fun x v=>{x with bd:={x.bd with status:=v}},.i (fun x=>x.bd.kind) fun x v=>{x with bd:={x.bd with kind:=v}},.s (fun x=>x.bd.body) fun x v=>{x with bd:={x.bd with body:=v}},.i (fun x=>x.bd.age) fun x v=>{x with bd:={x.bd with age:=v}},.b (fun x=>x.bd.shares) fun x v=>{x with bd:={x.bd with shares:=v}},.s (fun x=>x.bd.bj) fun x v=>{x with bd:={x.bd with bj:=v}}]
def SM:SConn->Int->SConn×Int:=mkA AeA
theorem Qm:Laws AeA:=by repeat' first|exact fun _ _=>rfl|exact fun _=>rfl|constructor
theorem UJ:Bd (szL DI) (Ao SM):=bdL Qm (fun x=>by simp only[D6,Fe.cost,AeA,szAddr,DI,Ae];omega)
def Rn:List (Fe SLoader):=[.l (.el .net) szNet Zk (fun x=>x.net) fun x v=>{x with net:=v},.l (.el .page) szPage Sp (fun x=>x.page) fun x v=>{x with page:=v},.l (.sl .str) (szL Ac) (Ao Fc) (fun x=>x.parts) fun x v=>{x with parts:=v},.l (.sl .conn) (szL DI) (Ao SM) (fun x=>x.conns) fun x v=>{x with conns:=v},.l (.sl .guess) (szL CO) (Ao NB) (fun x=>x.guesses) fun x v=>{x with guesses:=v}]
def Ce:SLoader->Int->SLoader×Int:=mkA Rn
theorem LK:Laws Rn:=by repeat' first|exact fun _ _=>rfl|exact fun _=>rfl|exact UJ|exact QZ|exact GZ|exact AaT|exact YF|constructor
theorem LA:Bd De Ce:=bdV LK (fun x=>by simp only[D6,Fe.cost,Rn,De];omega)
theorem Qd (x:SLoader) (k:Int):{ net:={ servers:=(Ce x k).1.net.servers,cache:=(Ce x k).1.net.cache,log:=(Ce x k).1.net.log,now:=x.net.now:SNet },page:={ addr:=x.page.addr,bj:={ set_:=x.page.bj.set_,bp:=(Ce x k).1.page.bj.bp,styles:=(Ce x k).1.page.bj.styles,images:=(Ce x k).1.page.bj.images,nonce:=x.page.bj.nonce:SPolicy },tok:=x.page.tok,bn:=(Ce x k).1.page.bn,ended:=x.page.ended,ba:=(Ce x k).1.page.ba,bf:=(Ce x k).1.page.bf,bh:=(Ce x k).1.page.bh,bg:=(Ce x k).1.page.bg,block:=x.page.block,inline:=x.page.inline,bm:=x.page.bm,bq:=x.page.bq,ran:=(Ce x k).1.page.ran,log:=(Ce x k).1.page.log,loaded:=x.page.loaded:SPage },parts:=(Ce x k).1.parts,conns:=(Ce x k).1.conns,guesses:=(Ce x k).1.guesses:SLoader }=(Ce x k).1:=by kernel_rfl
def Aet (x:SAddr):List SzI:=[.p x.host.size,.p x.path.size]
theorem Aeo (x:SAddr) (h:Sh.good (.el .addr) x):Fq (Aet x):=by simp only[Aet,Sh.good,Sh.fc,enc,Qd1,Qe3,false_implies,implies_true,DG,Fq,SzI.ok,maxLen] at *;grind
def AdV (x:SAddr):List ToI:=[]
def Ahe (x:SAddr) (z:Unit):SAddr:=⟨x.host,x.path⟩
theorem Adj (x:SAddr) (h:szAddr x<=1048576):Fm (AdV x):=by simp only[szAddr,AdV,Fm,Qe1] at *<;>omega
def Wb (x y:SAddr):List EqI:=[.s x.host y.host,.s x.path y.path]
theorem AeP (x y:SAddr):x=y↔C2 (Wb x y):=by cases x;cases y;simp[Wb,C2,EqI.tru]
theorem Ad2 (x y:SAddr) (h:szAddr x<=1125899906842624):Fx (Wb x y):=by simp only[szAddr,Wb,Fx,EqI.ok,Qe1,true_and] at *<;>omega
def Ae7 (x:SAttr):List SzI:=[.p x.name.size,.p x.value.size]
theorem Acf (x:SAttr) (h:Sh.good (.el .attr) x):Fq (Ae7 x):=by simp only[Ae7,Sh.good,Sh.fc,enc,Qd1,Qe3,false_implies,implies_true,DG,Fq,SzI.ok,maxLen] at *;grind
def AeH (x:SAttr):List ToI:=[]
def AgI (x:SAttr) (z:Unit):SAttr:=⟨x.name,x.value⟩
theorem AeS (x:SAttr) (h:A3 x<=1048576):Fm (AeH x):=by simp only[A3,AeH,Fm,Qe1] at *<;>omega
def Yb (x y:SAttr):List EqI:=[.s x.name y.name,.s x.value y.value]
theorem AdW (x y:SAttr):x=y↔C2 (Yb x y):=by cases x;cases y;simp[Yb,C2,EqI.tru]
theorem AcT (x y:SAttr) (h:A3 x<=1125899906842624):Fx (Yb x y):=by simp only[A3,Yb,Fx,EqI.ok,Qe1,true_and] at *<;>omega
def VT (x:SToken):List SzI:=[.p x.name.size,.c (.sl .attr) (szL A3) x.bo,.p x.text.size]
theorem AaP (x:SToken) (h:Sh.good (.el .token) x):Fq (VT x):=by simp only[VT,Sh.good,Sh.fc,enc,Qd1,Qe3,false_implies,implies_true,DG,Fq,SzI.ok,maxLen] at *;grind
def Xp (x:SToken):List ToI:=[⟨(.sl .attr),(szL A3),x.bo⟩]
def Age (x:SToken) (z:(List SAttr)×Unit):SToken:=⟨x.kind,x.name,z.1,x.text⟩
theorem AaH (x:SToken) (h:Aj x<=1048576):Fm (Xp x):=by simp only[Aj,Xp,Fm,Qe1] at *<;>omega
def OT (x y:SToken):List EqI:=[.i x.kind y.kind,.s x.name y.name,.c (.sl .attr) inferInstance (szL A3) x.bo y.bo,.s x.text y.text]
theorem AaY (x y:SToken):x=y↔C2 (OT x y):=by cases x;cases y;simp[OT,C2,EqI.tru]
theorem AaZ (x y:SToken) (h:Aj x<=1125899906842624):Fx (OT x y):=by simp only[Aj,OT,Fx,EqI.ok,Qe1,true_and] at *<;>omega
def Jf (x:STokenizer):List SzI:=[.p x.rest.size]
theorem Pm (x:STokenizer) (h:Sh.good (.el .tokenizer) x):Fq (Jf x):=by simp only[Jf,Sh.good,Sh.fc,enc,Qd1,Qe3,false_implies,implies_true,DG,Fq,SzI.ok,maxLen] at *;grind
def Je (x:STokenizer):List ToI:=[]
def U4 (x:STokenizer) (z:Unit):STokenizer:=⟨x.rest⟩
theorem PP (x:STokenizer) (h:BX x<=1048576):Fm (Je x):=by simp only[BX,Je,Fm,Qe1] at *<;>omega
def FE (x y:STokenizer):List EqI:=[.s x.rest y.rest]
theorem Pe (x y:STokenizer):x=y↔C2 (FE x y):=by cases x;cases y;simp[FE,C2,EqI.tru]
theorem PK (x y:STokenizer) (h:BX x<=1125899906842624):Fx (FE x y):=by simp only[BX,FE,Fx,EqI.ok,Qe1,true_and] at *<;>omega
def AdC (x:SNode):List SzI:=[.p x.name.size,.p x.text.size,.c (.sl .attr) (szL A3) x.bo]
theorem Aca (x:SNode) (h:Sh.good (.el .node) x):Fq (AdC x):=by simp only[AdC,Sh.good,Sh.fc,enc,Qd1,Qe3,false_implies,implies_true,DG,Fq,SzI.ok,maxLen] at *;grind
def AdS (x:SNode):List ToI:=[⟨(.sl .attr),(szL A3),x.bo⟩]
def Ag4 (x:SNode) (z:(List SAttr)×Unit):SNode:=⟨x.name,x.text,x.parent,z.1⟩
theorem AeN (x:SNode) (h:szNode x<=1048576):Fm (AdS x):=by simp only[szNode,AdS,Fm,Qe1] at *<;>omega
def WN (x y:SNode):List EqI:=[.s x.name y.name,.s x.text y.text,.i x.parent y.parent,.c (.sl .attr) inferInstance (szL A3) x.bo y.bo]
theorem Ac2 (x y:SNode):x=y↔C2 (WN x y):=by cases x;cases y;simp[WN,C2,EqI.tru]
theorem Ady (x y:SNode) (h:szNode x<=1125899906842624):Fx (WN x y):=by simp only[szNode,WN,Fx,EqI.ok,Qe1,true_and] at *<;>omega
def NT (x:SBuilder):List SzI:=[.c (.sl .node) (szL szNode) x.bi,.c (.sl .int) List.length x.bl]
theorem Tu (x:SBuilder) (h:Sh.good (.el .ba) x):Fq (NT x):=by simp only[NT,Sh.good,Sh.fc,enc,Qd1,Qe3,false_implies,implies_true,DG,Fq,SzI.ok,maxLen] at *;grind
def Nm (x:SBuilder):List ToI:=[⟨(.sl .node),(szL szNode),x.bi⟩,⟨(.sl .int),List.length,x.bl⟩]
def ZJ (x:SBuilder) (z:(List SNode)×(List Int)×Unit):SBuilder:=⟨z.1,z.2.1⟩
theorem UK (x:SBuilder) (h:szBuilder x<=1048576):Fm (Nm x):=by simp only[szBuilder,Nm,Fm,Qe1] at *<;>omega
def Io (x y:SBuilder):List EqI:=[.c (.sl .node) inferInstance (szL szNode) x.bi y.bi,.c (.sl .int) inferInstance List.length x.bl y.bl]
theorem T6 (x y:SBuilder):x=y↔C2 (Io x y):=by cases x;cases y;simp[Io,C2,EqI.tru]
theorem Tl (x y:SBuilder) (h:szBuilder x<=1125899906842624):Fx (Io x y):=by simp only[szBuilder,Io,Fx,EqI.ok,Qe1,true_and] at *<;>omega
def RB (x:SPolicy):List SzI:=[.c (.sl .str) (szL Ac) x.bp,.c (.sl .str) (szL Ac) x.styles,.c (.sl .str) (szL Ac) x.images,.p x.nonce.size]
theorem XW (x:SPolicy) (h:Sh.good (.el .bj) x):Fq (RB x):=by simp only[RB,Sh.good,Sh.fc,enc,Qd1,Qe3,false_implies,implies_true,DG,Fq,SzI.ok,maxLen] at *;grind
def Rb (x:SPolicy):List ToI:=[⟨(.sl .str),(szL Ac),x.bp⟩,⟨(.sl .str),(szL Ac),x.styles⟩,⟨(.sl .str),(szL Ac),x.images⟩]
def Adk (x:SPolicy) (z:(List ByteArray)×(List ByteArray)×(List ByteArray)×Unit):SPolicy:=⟨x.set_,z.1,z.2.1,z.2.2.1,x.nonce⟩
theorem YH (x:SPolicy) (h:szPolicy x<=1048576):Fm (Rb x):=by simp only[szPolicy,Rb,Fm,Qe1] at *<;>omega
def Lu (x y:SPolicy):List EqI:=[.b x.set_ y.set_,.c (.sl .str) inferInstance (szL Ac) x.bp y.bp,.c (.sl .str) inferInstance (szL Ac) x.styles y.styles,.c (.sl .str) inferInstance (szL Ac) x.images y.images,.s x.nonce y.nonce]
theorem WO (x y:SPolicy):x=y↔C2 (Lu x y):=by cases x;cases y;simp[Lu,C2,EqI.tru]
theorem Yw (x y:SPolicy) (h:szPolicy x<=1125899906842624):Fx (Lu x y):=by simp only[szPolicy,Lu,Fx,EqI.ok,Qe1,true_and] at *<;>omega
def K3 (x:SResponse):List SzI:=[.p x.body.size,.p x.bj.size]
theorem Qb (x:SResponse) (h:Sh.good (.el .bd) x):Fq (K3 x):=by simp only[K3,Sh.good,Sh.fc,enc,Qd1,Qe3,false_implies,implies_true,DG,Fq,SzI.ok,maxLen] at *;grind
def J1 (x:SResponse):List ToI:=[]
def Yh (x:SResponse) (z:Unit):SResponse:=⟨x.status,x.kind,x.body,x.age,x.shares,x.bj⟩
theorem Rk (x:SResponse) (h:Ae x<=1048576):Fm (J1 x):=by simp only[Ae,J1,Fm,Qe1] at *<;>omega
def GB (x y:SResponse):List EqI:=[.i x.status y.status,.i x.kind y.kind,.s x.body y.body,.i x.age y.age,.b x.shares y.shares,.s x.bj y.bj]
theorem Qk (x y:SResponse):x=y↔C2 (GB x y):=by cases x;cases y;simp[GB,C2,EqI.tru]
theorem QC (x y:SResponse) (h:Ae x<=1125899906842624):Fx (GB x y):=by simp only[Ae,GB,Fx,EqI.ok,Qe1,true_and] at *<;>omega
def Ac3 (x:SFile):List SzI:=[.p x.path.size,.c (.el .bd) Ae x.bd]
theorem AcB (x:SFile) (h:Sh.good (.el .file) x):Fq (Ac3 x):=by simp only[Ac3,Sh.good,Sh.fc,enc,Qd1,Qe3,false_implies,implies_true,DG,Fq,SzI.ok,maxLen] at *;grind
def AeU (x:SFile):List ToI:=[⟨(.el .bd),Ae,x.bd⟩]
def AgV (x:SFile) (z:SResponse×Unit):SFile:=⟨x.path,z.1⟩
theorem Ad0 (x:SFile) (h:D2 x<=1048576):Fm (AeU x):=by simp only[D2,AeU,Fm,Qe1] at *<;>omega
def WA (x y:SFile):List EqI:=[.s x.path y.path,.c (.el .bd) inferInstance Ae x.bd y.bd]
theorem AcV (x y:SFile):x=y↔C2 (WA x y):=by cases x;cases y;simp[WA,C2,EqI.tru]
theorem AeD (x y:SFile) (h:D2 x<=1125899906842624):Fx (WA x y):=by simp only[D2,WA,Fx,EqI.ok,Qe1,true_and] at *<;>omega
def Qe (x:SServer):List SzI:=[.p x.host.size,.c (.sl .file) (szL D2) x.files]
theorem U9 (x:SServer) (h:Sh.good (.el .server) x):Fq (Qe x):=by simp only[Qe,Sh.good,Sh.fc,enc,Qd1,Qe3,false_implies,implies_true,DG,Fq,SzI.ok,maxLen] at *;grind
def QL (x:SServer):List ToI:=[⟨(.sl .file),(szL D2),x.files⟩]
def Acu (x:SServer) (z:(List SFile)×Unit):SServer:=⟨x.host,z.1⟩
theorem Xq (x:SServer) (h:AW x<=1048576):Fm (QL x):=by simp only[AW,QL,Fm,Qe1] at *<;>omega
def Lp (x y:SServer):List EqI:=[.s x.host y.host,.c (.sl .file) inferInstance (szL D2) x.files y.files]
theorem U8 (x y:SServer):x=y↔C2 (Lp x y):=by cases x;cases y;simp[Lp,C2,EqI.tru]
theorem VK (x y:SServer) (h:AW x<=1125899906842624):Fx (Lp x y):=by simp only[AW,Lp,Fx,EqI.ok,Qe1,true_and] at *<;>omega
def Xj (x:SEntry):List SzI:=[.p x.top.size,.c (.el .addr) szAddr x.to,.c (.el .bd) Ae x.bd]
theorem Aaw (x:SEntry) (h:Sh.good (.el .entry) x):Fq (Xj x):=by simp only[Xj,Sh.good,Sh.fc,enc,Qd1,Qe3,false_implies,implies_true,DG,Fq,SzI.ok,maxLen] at *;grind
def VZ (x:SEntry):List ToI:=[⟨(.el .addr),szAddr,x.to⟩,⟨(.el .bd),Ae,x.bd⟩]
def Afn (x:SEntry) (z:SAddr×SResponse×Unit):SEntry:=⟨x.top,z.1,z.2.1,x.until_⟩
theorem Y4 (x:SEntry) (h:AK x<=1048576):Fm (VZ x):=by simp only[AK,VZ,Fm,Qe1] at *<;>omega
def Ot (x y:SEntry):List EqI:=[.s x.top y.top,.c (.el .addr) inferInstance szAddr x.to y.to,.c (.el .bd) inferInstance Ae x.bd y.bd,.i x.until_ y.until_]
theorem AaM (x y:SEntry):x=y↔C2 (Ot x y):=by cases x;cases y;simp[Ot,C2,EqI.tru]
theorem AaV (x y:SEntry) (h:AK x<=1125899906842624):Fx (Ot x y):=by simp only[AK,Ot,Fx,EqI.ok,Qe1,true_and] at *<;>omega
def Yl (x:SCache):List SzI:=[.c (.sl .entry) (szL AK) x.bg]
theorem Zz (x:SCache) (h:Sh.good (.el .cache) x):Fq (Yl x):=by simp only[Yl,Sh.good,Sh.fc,enc,Qd1,Qe3,false_implies,implies_true,DG,Fq,SzI.ok,maxLen] at *;grind
def Xx (x:SCache):List ToI:=[⟨(.sl .entry),(szL AK),x.bg⟩]
def AfJ (x:SCache) (z:(List SEntry)×Unit):SCache:=⟨z.1⟩
theorem AaD (x:SCache) (h:szCache x<=1048576):Fm (Xx x):=by simp only[szCache,Xx,Fm,Qe1] at *<;>omega
def OA (x y:SCache):List EqI:=[.c (.sl .entry) inferInstance (szL AK) x.bg y.bg]
theorem AaS (x y:SCache):x=y↔C2 (OA x y):=by cases x;cases y;simp[OA,C2,EqI.tru]
theorem Aar (x y:SCache) (h:szCache x<=1125899906842624):Fx (OA x y):=by simp only[szCache,OA,Fx,EqI.ok,Qe1,true_and] at *<;>omega
def Aco (x:SSent):List SzI:=[.p x.top.size,.c (.el .addr) szAddr x.to]
theorem Adq (x:SSent) (h:Sh.good (.el .sent) x):Fq (Aco x):=by simp only[Aco,Sh.good,Sh.fc,enc,Qd1,Qe3,false_implies,implies_true,DG,Fq,SzI.ok,maxLen] at *;grind
def Ad5 (x:SSent):List ToI:=[⟨(.el .addr),szAddr,x.to⟩]
def Agq (x:SSent) (z:SAddr×Unit):SSent:=⟨x.top,z.1,x.guess⟩
theorem Ae2 (x:SSent) (h:Dk x<=1048576):Fm (Ad5 x):=by simp only[Dk,Ad5,Fm,Qe1] at *<;>omega
def WW (x y:SSent):List EqI:=[.s x.top y.top,.c (.el .addr) inferInstance szAddr x.to y.to,.b x.guess y.guess]
theorem Ack (x y:SSent):x=y↔C2 (WW x y):=by cases x;cases y;simp[WW,C2,EqI.tru]
theorem Adh (x y:SSent) (h:Dk x<=1125899906842624):Fx (WW x y):=by simp only[Dk,WW,Fx,EqI.ok,Qe1,true_and] at *<;>omega
def Ag7 (x:SNet):List SzI:=[.c (.sl .server) (szL AW) x.servers,.c (.el .cache) szCache x.cache,.c (.sl .sent) (szL Dk) x.log]
theorem Af2 (x:SNet) (h:Sh.good (.el .net) x):Fq (Ag7 x):=by simp only[Ag7,Sh.good,Sh.fc,enc,Qd1,Qe3,false_implies,implies_true,DG,Fq,SzI.ok,maxLen] at *;grind
def AgS (x:SNet):List ToI:=[⟨(.sl .server),(szL AW),x.servers⟩,⟨(.el .cache),szCache,x.cache⟩,⟨(.sl .sent),(szL Dk),x.log⟩]
def Al5 (x:SNet) (z:(List SServer)×SCache×(List SSent)×Unit):SNet:=⟨z.1,z.2.1,z.2.2.1,x.now⟩
theorem Aff (x:SNet) (h:szNet x<=1048576):Fm (AgS x):=by simp only[szNet,AgS,Fm,Qe1] at *<;>omega
def AfS (x y:SNet):List EqI:=[.c (.sl .server) inferInstance (szL AW) x.servers y.servers,.c (.el .cache) inferInstance szCache x.cache y.cache,.c (.sl .sent) inferInstance (szL Dk) x.log y.log,.i x.now y.now]
theorem Af1 (x y:SNet):x=y↔C2 (AfS x y):=by cases x;cases y;simp[AfS,C2,EqI.tru]
theorem Afm (x y:SNet) (h:szNet x<=1125899906842624):Fx (AfS x y):=by simp only[szNet,AfS,Fx,EqI.ok,Qe1,true_and] at *<;>omega
def AeK (x:SSlot):List SzI:=[.c (.el .addr) szAddr x.to,.p x.digest.size,.p x.body.size]
theorem Aea (x:SSlot) (h:Sh.good (.el .slot) x):Fq (AeK x):=by simp only[AeK,Sh.good,Sh.fc,enc,Qd1,Qe3,false_implies,implies_true,DG,Fq,SzI.ok,maxLen] at *;grind
def AdD (x:SSlot):List ToI:=[⟨(.el .addr),szAddr,x.to⟩]
def AgE (x:SSlot) (z:SAddr×Unit):SSlot:=⟨x.mode,z.1,x.digest,x.node,x.done,x.code,x.body⟩
theorem Ad3 (x:SSlot) (h:AF x<=1048576):Fm (AdD x):=by simp only[AF,AdD,Fm,Qe1] at *<;>omega
def VR (x y:SSlot):List EqI:=[.i x.mode y.mode,.c (.el .addr) inferInstance szAddr x.to y.to,.s x.digest y.digest,.i x.node y.node,.b x.done y.done,.i x.code y.code,.s x.body y.body]
theorem AcG (x y:SSlot):x=y↔C2 (VR x y):=by cases x;cases y;simp[VR,C2,EqI.tru]
theorem AcS (x y:SSlot) (h:AF x<=1125899906842624):Fx (VR x y):=by simp only[AF,VR,Fx,EqI.ok,Qe1,true_and] at *<;>omega
def Qa (x:SModule):List SzI:=[.c (.el .addr) szAddr x.to,.p x.body.size]
theorem XO (x:SModule) (h:Sh.good (.el .module) x):Fq (Qa x):=by simp only[Qa,Sh.good,Sh.fc,enc,Qd1,Qe3,false_implies,implies_true,DG,Fq,SzI.ok,maxLen] at *;grind
def Ql (x:SModule):List ToI:=[⟨(.el .addr),szAddr,x.to⟩]
def AcE (x:SModule) (z:SAddr×Unit):SModule:=⟨z.1,x.done,x.code,x.body⟩
theorem Wj (x:SModule) (h:Aq x<=1048576):Fm (Ql x):=by simp only[Aq,Ql,Fm,Qe1] at *<;>omega
def KG (x y:SModule):List EqI:=[.c (.el .addr) inferInstance szAddr x.to y.to,.b x.done y.done,.i x.code y.code,.s x.body y.body]
theorem Vf (x y:SModule):x=y↔C2 (KG x y):=by cases x;cases y;simp[KG,C2,EqI.tru]
theorem Yf (x y:SModule) (h:Aq x<=1125899906842624):Fx (KG x y):=by simp only[Aq,KG,Fx,EqI.ok,Qe1,true_and] at *<;>omega
def Adw (x:SPage):List SzI:=[.c (.el .addr) szAddr x.addr,.c (.el .bj) szPolicy x.bj,.c (.el .tokenizer) BX x.tok,.c (.sl .token) (szL Aj) x.bn,.c (.el .ba) szBuilder x.ba,.c (.sl .slot) (szL AF) x.bf,.c (.sl .module) (szL Aq) x.bh,.c (.sl .addr) (szL szAddr) x.bg,.c (.sl .addr) (szL szAddr) x.ran,.c (.sl .str) (szL Ac) x.log]
theorem Acb (x:SPage) (h:Sh.good (.el .page) x):Fq (Adw x):=by simp only[Adw,Sh.good,Sh.fc,enc,Qd1,Qe3,false_implies,implies_true,DG,Fq,SzI.ok,maxLen] at *;grind
def AdT (x:SPage):List ToI:=[⟨(.el .addr),szAddr,x.addr⟩,⟨(.el .bj),szPolicy,x.bj⟩,⟨(.el .tokenizer),BX,x.tok⟩,⟨(.sl .token),(szL Aj),x.bn⟩,⟨(.el .ba),szBuilder,x.ba⟩,⟨(.sl .slot),(szL AF),x.bf⟩,⟨(.sl .module),(szL Aq),x.bh⟩,⟨(.sl .addr),(szL szAddr),x.bg⟩,⟨(.sl .addr),(szL szAddr),x.ran⟩,⟨(.sl .str),(szL Ac),x.log⟩]
def Agy (x:SPage) (z:SAddr×SPolicy×STokenizer×(List SToken)×SBuilder×(List SSlot)×(List SModule)×(List SAddr)×(List SAddr)×(List ByteArray)×Unit):SPage:=⟨z.1,z.2.1,z.2.2.1,z.2.2.2.1,x.ended,z.2.2.2.2.1,z.2.2.2.2.2.1,z.2.2.2.2.2.2.1,z.2.2.2.2.2.2.2.1,x.block,x.inline,x.bm,x.bq,z.2.2.2.2.2.2.2.2.1,z.2.2.2.2.2.2.2.2.2.1,x.loaded⟩
theorem Adl (x:SPage) (h:szPage x<=1048576):Fm (AdT x):=by simp only[szPage,AdT,Fm,Qe1] at *<;>omega
def W9 (x y:SPage):List EqI:=[.c (.el .addr) inferInstance szAddr x.addr y.addr,.c (.el .bj) inferInstance szPolicy x.bj y.bj,.c (.el .tokenizer) inferInstance BX x.tok y.tok,.c (.sl .token) inferInstance (szL Aj) x.bn y.bn,.b x.ended y.ended,.c (.el .ba) inferInstance szBuilder x.ba y.ba,.c (.sl .slot) inferInstance (szL AF) x.bf y.bf,.c (.sl .module) inferInstance (szL Aq) x.bh y.bh,.c (.sl .addr) inferInstance (szL szAddr) x.bg y.bg,.i x.block y.block,.i x.inline y.inline,.i x.bm y.bm,.i x.bq y.bq,.c (.sl .addr) inferInstance (szL szAddr) x.ran y.ran,.c (.sl .str) inferInstance (szL Ac) x.log y.log,.b x.loaded y.loaded]
theorem AeL (x y:SPage):x=y↔C2 (W9 x y):=by cases x;cases y;simp[W9,C2,EqI.tru]
theorem AeO (x y:SPage) (h:szPage x<=1125899906842624):Fx (W9 x y):=by simp only[szPage,W9,Fx,EqI.ok,Qe1,true_and] at *<;>omega
def YK (x:SGuess):List SzI:=[.c (.el .addr) szAddr x.to,.c (.el .bd) Ae x.bd]
theorem Z6 (x:SGuess) (h:Sh.good (.el .guess) x):Fq (YK x):=by simp only[YK,Sh.good,Sh.fc,enc,Qd1,Qe3,false_implies,implies_true,DG,Fq,SzI.ok,maxLen] at *;grind
def Vn (x:SGuess):List ToI:=[⟨(.el .addr),szAddr,x.to⟩,⟨(.el .bd),Ae,x.bd⟩]
def Afk (x:SGuess) (z:SAddr×SResponse×Unit):SGuess:=⟨z.1,z.2.1,x.used⟩
theorem Aa7 (x:SGuess) (h:CO x<=1048576):Fm (Vn x):=by simp only[CO,Vn,Fm,Qe1] at *<;>omega
def OH (x y:SGuess):List EqI:=[.c (.el .addr) inferInstance szAddr x.to y.to,.c (.el .bd) inferInstance Ae x.bd y.bd,.b x.used y.used]
theorem Za (x y:SGuess):x=y↔C2 (OH x y):=by cases x;cases y;simp[OH,C2,EqI.tru]
theorem AaI (x y:SGuess) (h:CO x<=1125899906842624):Fx (OH x y):=by simp only[CO,OH,Fx,EqI.ok,Qe1,true_and] at *<;>omega
def Ada (x:SConn):List SzI:=[.c (.el .addr) szAddr x.to,.c (.el .bd) Ae x.bd]
theorem Ads (x:SConn) (h:Sh.good (.el .conn) x):Fq (Ada x):=by simp only[Ada,Sh.good,Sh.fc,enc,Qd1,Qe3,false_implies,implies_true,DG,Fq,SzI.ok,maxLen] at *;grind
def AcN (x:SConn):List ToI:=[⟨(.el .addr),szAddr,x.to⟩,⟨(.el .bd),Ae,x.bd⟩]
def Agz (x:SConn) (z:SAddr×SResponse×Unit):SConn:=⟨z.1,x.left,x.guess,z.2.1⟩
theorem AcY (x:SConn) (h:DI x<=1048576):Fm (AcN x):=by simp only[DI,AcN,Fm,Qe1] at *<;>omega
def WB (x y:SConn):List EqI:=[.c (.el .addr) inferInstance szAddr x.to y.to,.i x.left y.left,.b x.guess y.guess,.c (.el .bd) inferInstance Ae x.bd y.bd]
theorem Acm (x y:SConn):x=y↔C2 (WB x y):=by cases x;cases y;simp[WB,C2,EqI.tru]
theorem Adm (x y:SConn) (h:DI x<=1125899906842624):Fx (WB x y):=by simp only[DI,WB,Fx,EqI.ok,Qe1,true_and] at *<;>omega
def Ry (x:SLoader):List SzI:=[.c (.el .net) szNet x.net,.c (.el .page) szPage x.page,.c (.sl .str) (szL Ac) x.parts,.c (.sl .conn) (szL DI) x.conns,.c (.sl .guess) (szL CO) x.guesses]
theorem WI (x:SLoader) (h:Sh.good (.el .loader) x):Fq (Ry x):=by simp only[Ry,Sh.good,Sh.fc,enc,Qd1,Qe3,false_implies,implies_true,DG,Fq,SzI.ok,maxLen] at *;grind
def RA (x:SLoader):List ToI:=[⟨(.el .net),szNet,x.net⟩,⟨(.el .page),szPage,x.page⟩,⟨(.sl .str),(szL Ac),x.parts⟩,⟨(.sl .conn),(szL DI),x.conns⟩,⟨(.sl .guess),(szL CO),x.guesses⟩]
def AeC (x:SLoader) (z:SNet×SPage×(List ByteArray)×(List SConn)×(List SGuess)×Unit):SLoader:=⟨z.1,z.2.1,z.2.2.1,z.2.2.2.1,z.2.2.2.2.1⟩
theorem W4 (x:SLoader) (h:De x<=1048576):Fm (RA x):=by simp only[De,RA,Fm,Qe1] at *<;>omega
def Kn (x y:SLoader):List EqI:=[.c (.el .net) inferInstance szNet x.net y.net,.c (.el .page) inferInstance szPage x.page y.page,.c (.sl .str) inferInstance (szL Ac) x.parts y.parts,.c (.sl .conn) inferInstance (szL DI) x.conns y.conns,.c (.sl .guess) inferInstance (szL CO) x.guesses y.guesses]
theorem VX (x y:SLoader):x=y↔C2 (Kn x y):=by cases x;cases y;simp[Kn,C2,EqI.tru]
theorem VH (x y:SLoader) (h:De x<=1125899906842624):Fx (Kn x y):=by simp only[De,Kn,Fx,EqI.ok,Qe1,true_and] at *<;>omega
def FJ:Fct:=szF (.sl .str) (szL Ac)
def I8:Fct:=toF (.sl .str) (szL Ac)
def Fz:Fct:=eqF (.sl .str) (szL Ac)
def PS:MS:=mkF (.sl .str) (Ao Fc)
def Ph:Fct:=heF (.sl .str) (Ao Fc)
def NN:Fct:=szF (.sl .int) List.length
def Ra:Fct:=toF (.sl .int) List.length
def J7:Fct:=eqF (.sl .int) List.length
def Vh:MS:=mkF (.sl .int) (Ao Aa3)
def YB:Fct:=heF (.sl .int) (Ao Aa3)
def YU:Fct:=szF (.sl .addr) (szL szAddr)
def Aao:Fct:=toF (.sl .addr) (szL szAddr)
def ZV:Fct:=eqF (.sl .addr) (szL szAddr)
def TF:MS:=mkF (.sl .addr) (Ao OC)
def US:Fct:=heF (.sl .addr) (Ao OC)
def Aej:Fct:=szF (.el .addr) szAddr
def AcA:Fct:=toF (.el .addr) szAddr
def Ae0:Fct:=eqF (.el .addr) szAddr
def Zx:Fct:=szF (.sl .attr) (szL A3)
def YZ:Fct:=toF (.sl .attr) (szL A3)
def Aaq:Fct:=eqF (.sl .attr) (szL A3)
def UL:MS:=mkF (.sl .attr) (Ao Oy)
def Us:Fct:=heF (.sl .attr) (Ao Oy)
def Adf:Fct:=szF (.el .attr) A3
def AdE:Fct:=toF (.el .attr) A3
def AcF:Fct:=eqF (.el .attr) A3
def VU:Fct:=szF (.sl .token) (szL Aj)
def W7:Fct:=toF (.sl .token) (szL Aj)
def WD:Fct:=eqF (.sl .token) (szL Aj)
def Rf:MS:=mkF (.sl .token) (Ao NV)
def Q0:Fct:=heF (.sl .token) (Ao NV)
def Aa2:Fct:=szF (.el .token) Aj
def AaN:Fct:=toF (.el .token) Aj
def Y9:Fct:=eqF (.el .token) Aj
def ON:Fct:=szF (.el .tokenizer) BX
def Pn:Fct:=toF (.el .tokenizer) BX
def OR:Fct:=eqF (.el .tokenizer) BX
def Z2:Fct:=szF (.sl .node) (szL szNode)
def Aa0:Fct:=toF (.sl .node) (szL szNode)
def YX:Fct:=eqF (.sl .node) (szL szNode)
def UO:MS:=mkF (.sl .node) (Ao SC)
def Tw:Fct:=heF (.sl .node) (Ao SC)
def Aeu:Fct:=szF (.el .node) szNode
def Adr:Fct:=toF (.el .node) szNode
def Ace:Fct:=eqF (.el .node) szNode
def To:Fct:=szF (.el .ba) szBuilder
def U2:Fct:=toF (.el .ba) szBuilder
def TX:Fct:=eqF (.el .ba) szBuilder
def PT:MS:=mkF (.el .ba) Im
def Oo:Fct:=heF (.el .ba) Im
def WM:Fct:=szF (.el .bj) szPolicy
def Vs:Fct:=toF (.el .bj) szPolicy
def Vm:Fct:=eqF (.el .bj) szPolicy
def Rh:MS:=mkF (.el .bj) JI
def QF:Fct:=heF (.el .bj) JI
def QQ:Fct:=szF (.el .bd) Ae
def Qg:Fct:=toF (.el .bd) Ae
def RK:Fct:=eqF (.el .bd) Ae
def Abq:Fct:=szF (.sl .file) (szL D2)
def Z1:Fct:=toF (.sl .file) (szL D2)
def Z0:Fct:=eqF (.sl .file) (szL D2)
def U1:MS:=mkF (.sl .file) (Ao Sv)
def Ug:Fct:=heF (.sl .file) (Ao Sv)
def AeI:Fct:=szF (.el .file) D2
def AcR:Fct:=toF (.el .file) D2
def AcL:Fct:=eqF (.el .file) D2
def UM:Fct:=szF (.sl .server) (szL AW)
def Uf:Fct:=toF (.sl .server) (szL AW)
def Tq:Fct:=eqF (.sl .server) (szL AW)
def PU:MS:=mkF (.sl .server) (Ao JN)
def PZ:Fct:=heF (.sl .server) (Ao JN)
def VG:Fct:=szF (.el .server) AW
def Vi:Fct:=toF (.el .server) AW
def YO:Fct:=eqF (.el .server) AW
def Vc:Fct:=szF (.sl .entry) (szL AK)
def XM:Fct:=toF (.sl .entry) (szL AK)
def Wy:Fct:=eqF (.sl .entry) (szL AK)
def Rs:MS:=mkF (.sl .entry) (Ao Nc)
def P0:Fct:=heF (.sl .entry) (Ao Nc)
def Abt:Fct:=szF (.el .entry) AK
def YW:Fct:=toF (.el .entry) AK
def ZB:Fct:=eqF (.el .entry) AK
def Ze:Fct:=szF (.el .cache) szCache
def AaJ:Fct:=toF (.el .cache) szCache
def Zb:Fct:=eqF (.el .cache) szCache
def Tg:MS:=mkF (.el .cache) N9
def Uq:Fct:=heF (.el .cache) N9
def Aad:Fct:=szF (.sl .sent) (szL Dk)
def ZU:Fct:=toF (.sl .sent) (szL Dk)
def YV:Fct:=eqF (.sl .sent) (szL Dk)
def TB:MS:=mkF (.sl .sent) (Ao SB)
def UC:Fct:=heF (.sl .sent) (Ao SB)
def Adb:Fct:=szF (.el .sent) Dk
def Aei:Fct:=toF (.el .sent) Dk
def Aex:Fct:=eqF (.el .sent) Dk
def AfK:Fct:=szF (.el .net) szNet
def Afr:Fct:=toF (.el .net) szNet
def Afl:Fct:=eqF (.el .net) szNet
def Abl:MS:=mkF (.el .net) Zk
def ZO:Fct:=heF (.el .net) Zk
def Zc:Fct:=szF (.sl .slot) (szL AF)
def Y5:Fct:=toF (.sl .slot) (szL AF)
def Abr:Fct:=eqF (.sl .slot) (szL AF)
def Ue:MS:=mkF (.sl .slot) (Ao SG)
def TY:Fct:=heF (.sl .slot) (Ao SG)
def AcK:Fct:=szF (.el .slot) AF
def Ade:Fct:=toF (.el .slot) AF
def Ab8:Fct:=eqF (.el .slot) AF
def UP:Fct:=szF (.sl .module) (szL Aq)
def UR:Fct:=toF (.sl .module) (szL Aq)
def Uk:Fct:=eqF (.sl .module) (szL Aq)
def PW:MS:=mkF (.sl .module) (Ao JH)
def PM:Fct:=heF (.sl .module) (Ao JH)
def WR:Fct:=szF (.el .module) Aq
def Yt:Fct:=toF (.el .module) Aq
def Va:Fct:=eqF (.el .module) Aq
def AeV:Fct:=szF (.el .page) szPage
def Adu:Fct:=toF (.el .page) szPage
def AcJ:Fct:=eqF (.el .page) szPage
def Wl:MS:=mkF (.el .page) Sp
def VV:Fct:=heF (.el .page) Sp
def XC:Fct:=szF (.sl .guess) (szL CO)
def X3:Fct:=toF (.sl .guess) (szL CO)
def X5:Fct:=eqF (.sl .guess) (szL CO)
def RC:MS:=mkF (.sl .guess) (Ao NB)
def QX:Fct:=heF (.sl .guess) (Ao NB)
def Zn:Fct:=szF (.el .guess) CO
def Z7:Fct:=toF (.el .guess) CO
def Abn:Fct:=eqF (.el .guess) CO
def Zh:Fct:=szF (.sl .conn) (szL DI)
def ZA:Fct:=toF (.sl .conn) (szL DI)
def Aa6:Fct:=eqF (.sl .conn) (szL DI)
def TP:MS:=mkF (.sl .conn) (Ao SM)
def UZ:Fct:=heF (.sl .conn) (Ao SM)
def AcZ:Fct:=szF (.el .conn) DI
def AdM:Fct:=toF (.el .conn) DI
def Aed:Fct:=eqF (.el .conn) DI
def KK:Fct:=szF (.el .loader) De
def FD:Fct:=toF (.el .loader) De
def FG:Fct:=eqF (.el .loader) De
def Ee:MS:=mkF (.el .loader) Ce
def Gf:Fct:=heF (.el .loader) Ce
end Go.D
namespace Go.D
theorem Ajl:(∀ x:SToken,(⟨x.kind,x.name,x.bo,x.text⟩:SToken)=x)/\(∀ x:SNode,(⟨x.name,x.text,x.parent,x.bo⟩:SNode)=x)/\(∀ x:SBuilder,(⟨x.bi,x.bl⟩:SBuilder)=x)/\(∀ x:SPolicy,(⟨x.set_,x.bp,x.styles,x.images,x.nonce⟩:SPolicy)=x)/\(∀ x:SPage,(⟨x.addr,x.bj,x.tok,x.bn,x.ended,x.ba,x.bf,x.bh,x.bg,x.block,x.inline,x.bm,x.bq,x.ran,x.log,x.loaded⟩:SPage)=x)/\(∀ x:SVisit,(⟨x.addr,x.page,x.kept⟩:SVisit)=x)/\(∀ x:STab,(⟨x.visits,x.at_⟩:STab)=x)/\(∀ x:SServer,(⟨x.host,x.files⟩:SServer)=x)/\(∀ x:SCache,(⟨x.bg⟩:SCache)=x)/\(∀ x:SNet,(⟨x.servers,x.cache,x.log,x.now⟩:SNet)=x)/\(∀ x:SLoader,(⟨x.net,x.page,x.parts,x.conns,x.guesses⟩:SLoader)=x)/\(∀ x:SSheet,(⟨x.rules⟩:SSheet)=x)/\(∀ x:SResult,(⟨x.ba,x.log,x.verdicts,x.sheet,x.loaded⟩:SResult)=x)/\(∀ x:SSlot,(⟨x.mode,x.to,x.digest,x.node,x.done,x.code,x.body⟩:SSlot)=x)/\(∀ x:SModule,(⟨x.to,x.done,x.code,x.body⟩:SModule)=x)/\(∀ x:SAddr,(⟨x.host,x.path⟩:SAddr)=x)/\(∀ x:SRequest,(⟨x.kind,x.to,x.from_,x.digest⟩:SRequest)=x)/\(∀ x:SResponse,(⟨x.status,x.kind,x.body,x.age,x.shares,x.bj⟩:SResponse)=x)/\(∀ x:SConn,(⟨x.to,x.left,x.guess,x.bd⟩:SConn)=x)/\(∀ x:SGuess,(⟨x.to,x.bd,x.used⟩:SGuess)=x)/\(∀ x:SEntry,(⟨x.top,x.to,x.bd,x.until_⟩:SEntry)=x)/\(∀ x:SSent,(⟨x.top,x.to,x.guess⟩:SSent)=x)/\(∀ x:SFile,(⟨x.path,x.bd⟩:SFile)=x) :=
 ⟨ZC,AdA,UA,YL,Aeb,Z3,Afe,Xl,Aat,AfG,YC,Y2,Yk,AeX,XJ,Ae3,T9,RO,Aek,Zp,Aal,Ad7,Aev⟩
theorem std:(type_of% @Ajl)/\(type_of% @Afb)/\(type_of% @Agi)/\∀ {α:Type} (a b:α),(a≠b) = ¬a=b:=⟨Ajl,Afb,Agi,fun _ _=>rfl⟩
def KP (a b:List Nat):List Nat:=a++(b++b.map (· + 1000000))
def lv:List (Nat×LInv)->TZ
 | [],_=>none
 | (m,x)::r,n=>bif n==m then some x else lv r n
theorem Fct.p {S:Fct} {P:Program} {E:Env} {f:Nat} {fn:Func} (kp:List Nat) (L:As S.as->TZ) (hE:EOk P E) (hf:P.funcs[f]? = some fn)
 (hh:∀ x,S.pre x->HoldsE (Ft P E (L x) kp [] fn (S.arg x)) (S.ctr x).post) (hc:(fn.body.isSome&&decide (S.as.length<=fn.ntmps))=true:=by kernel_rfl):S.ok P f:=by
 rw[Qa1] at hc;exact Fct.of (L:=L) hE hf hc.1 hc.2 hh
end Go.D
namespace Go.D
set_option linter.unusedSectionVars false
section
variable {α:Type} [DecidableEq α] [Inhabited α]
def YJ:List α->List α
 | []=>[]
 | [a]=>[a]
 | a::b::l=>if a=b then YJ (b::l) else a::YJ (b::l)
structure CompInv (s d:List α) (k0 k k2:Int):Prop where
 c2:1<=k2
 c0:1<=k0
 le:k0+k2<=s.length
 lo:k0<=k
 hi:k<k0+k2
 len:d.length=s.length
 dr:d.drop k.toNat=s.drop k.toNat
 tk:d.take k.toNat=YJ (s.take (k0+k2).toNat)
theorem Jl {s d:List α} {k i:Nat} (h:d.drop k=s.drop k) (hi:k<=i):d.getD i default=s.getD i default:=by
 have h1:(d.drop k)[i-k]? = (s.drop k)[i-k]?:=by rw[h]
 simp only[Qe5,show k+(i-k)=i by omega] at h1;simp[Qa7,h1]
theorem CompInv.at_ {s d:List α} {k0 k k2:Int} (h:CompInv s d k0 k k2) (hlt:k0+k2<s.length) :
 d.getD (k0.toNat+k2.toNat) default=s.getD (k0+k2).toNat default/\d.getD (k0.toNat+(k2-1).toNat) default=s.getD ((k0+k2).toNat-1) default:=by
 obtain⟨a,b,c,e,f,g,i,j⟩:=h;refine⟨?_,?_⟩
 ·rw[Jl i (by omega)];congr 1;omega
 ·rw[Jl i (by omega)];congr 1;omega
end
end Go.D
namespace Go.D
open Go.Lib Go.Sort
def ZL (a b:ByteArray):Int:=compareBytes a.data.toList b.data.toList
theorem Zj:∀ l m:List UInt8,compareBytes l m = -1\/compareBytes l m=0\/compareBytes l m=1:=by
 intro l
 induction l with
 | nil=>intro m;cases m<;>simp[compareBytes]
 | cons a l ih=>
  intro m;cases m with
  | nil=>simp[compareBytes]
  | cons b m=>
   simp only[compareBytes];split
   ·simp
   ·split
    ·simp
    ·exact ih m
theorem AfY:∀ {l m:List UInt8},compareBytes l m=0↔l=m:=by
 intro l
 induction l with
 | nil=>intro m;cases m<;>simp[compareBytes]
 | cons a l ih=>
  intro m;cases m with
  | nil=>simp[compareBytes]
  | cons b m=>
   simp only[compareBytes,List.cons.injEq];split
   ·rename_i h;simp;intro e;subst e;exact absurd h (UInt8.lt_irrefl _)
   ·split
    ·rename_i h;simp;intro e;subst e;exact absurd h (UInt8.lt_irrefl _)
    ·rename_i h1 h2;have e:a=b:=UInt8.le_antisymm (UInt8.not_lt.1 h2) (UInt8.not_lt.1 h1);simp[e,ih]
theorem Aew:∀ {l m:List UInt8},Op.bytesLess l m=decide (compareBytes l m<0):=by
 intro l
 induction l with
 | nil=>intro m;cases m<;>simp[Op.bytesLess,compareBytes]
 | cons a l ih=>
  intro m;cases m with
  | nil=>simp[Op.bytesLess,compareBytes]
  | cons b m=>
   simp only[Op.bytesLess,compareBytes,ih];by_cases h1:a<b
   ·simp[h1]
   ·by_cases h2:b<a
    ·have:¬ a=b:=fun e=>UInt8.lt_irrefl _ (e▸h2)
     simp[h1,h2,this]
    ·have e:a=b:=UInt8.le_antisymm (UInt8.not_lt.1 h2) (UInt8.not_lt.1 h1);simp[e,UInt8.lt_irrefl]
theorem Xr (a b:ByteArray):Op.bytesLess a.toList b.toList=decide (ZL a b<0):=by
 rw[Aew,Lib.toList_data,Lib.toList_data];rfl
theorem AfU {a b:ByteArray} (h:a.data.toList=b.data.toList):a=b:=by
 cases a;cases b;simpa using Array.toList_inj.1 h
theorem K9 {a b:ByteArray}:ZL a b=0↔a=b:=⟨fun h=>AfU (AfY.1 h),fun h=>AfY.2 (by rw[h])⟩
theorem IT (a b:ByteArray):ZL a b = -1\/ZL a b=0\/ZL a b=1:=Zj _ _
def fCmpStr:Fct:=⟨[aT,aT],[rI],fun _=>True,fun x=>(ZL x.1 x.2.1,())⟩
def cmpA (a b:SAddr):Int:=if ZL a.host b.host=0 then ZL a.path b.path else ZL a.host b.host
theorem UQ (a b:SAddr):cmpA a b = -1\/cmpA a b=0\/cmpA a b=1:=by unfold cmpA;split<;>exact IT _ _
theorem AcW {a b:SAddr}:cmpA a b=0↔a=b:=by
 obtain⟨h,p⟩:=a;obtain⟨h',p'⟩:=b;simp only[cmpA,SAddr.mk.injEq];split
 ·rename_i e;rw[K9,K9.1 e];simp
 ·rename_i e;constructor
  ·intro h;exact absurd h e
  ·rintro⟨rfl,_⟩;exact absurd (K9.2 rfl) e
end Go.D
namespace Go.D
def Ht (n:Int):ByteArray:=⟨(Lib.itoa n).toArray⟩
def Aax (k:Nat) (s:ByteArray):ByteArray:=if k=0 then s else⟨(Lib.decDigits k).toArray⟩++s
theorem Fu {k:Nat} (h:10<=k):Lib.decDigits k=Lib.decDigits (k / 10)++[UInt8.ofNat (48+k % 10)]:=by
 rw[Lib.decDigits,dif_neg (by omega)]
theorem Eb {k:Nat} (h:k<10):Lib.decDigits k=[UInt8.ofNat (48+k)]:=by
 rw[Lib.decDigits,dif_pos h]
theorem Pq {k:Nat} {s:ByteArray} (h:0<k):Aax k s=Aax (k / 10) (⟨#[UInt8.ofNat (48+k % 10)]⟩++s):=by
 unfold Aax;rw[Qa3 (by omega)];by_cases h1:k<10
 ·rw[Qa2 (by omega),Eb h1,Nat.mod_eq_of_lt h1]
 ·rw[Qa3 (by omega),Fu (by omega)];rw[<-ByteArray.append_assoc];congr 1
theorem Xo:Ht 0=⟨#[48]⟩:=by
 unfold Ht Lib.itoa;rw[Qa3 (by omega),Eb (by decide)];rfl
theorem ZY {n:Int} (h:n<0):Ht n=⟨#[45]⟩++Aax n.natAbs ⟨#[]⟩:=by
 unfold Ht Lib.itoa Aax;rw[Qa2 h,Qa3 (by omega)];apply ByteArray.ext;simp
theorem Y1 {n:Int} (h:0<n):Ht n=Aax n.natAbs ⟨#[]⟩:=by
 unfold Ht Lib.itoa Aax;rw[Qa3 (by omega),Qa3 (by omega),show n.toNat=n.natAbs by omega];apply ByteArray.ext;simp
theorem EU:∀ (f k:Nat),k<10 ^ (f+1)->(Lib.decDigits k).length<=f+1
 | 0,k,h=>by rw[Eb (by omega)];simp
 | f+1,k,h=>by
  by_cases h1:k<10
  ·rw[Eb h1];simp
  ·rw[Fu (by omega),Qa4];have:=EU f (k / 10) (by rw[Nat.pow_succ] at h;omega);simp only[Qa6,Qb5];omega
theorem Lg {n:Int} (h0 : -9223372036854775808<=n) (h1:n<=9223372036854775807):(Ht n).size<=20:=by
 have e:(Ht n).size=(Lib.itoa n).length:=by simp[Ht,ByteArray.size]
 rw[e];unfold Lib.itoa;split
 ·have:=EU 18 n.natAbs (by omega);simp only[Qa6];omega
 ·have:=EU 18 n.toNat (by omega);omega
theorem Abe (x:Int):(if x.tmod 10<0 then 0-x.tmod 10 else x.tmod 10)=((x.natAbs % 10:Nat):Int):=by
 have h1:(x.tmod 10).natAbs=x.natAbs % 10:=Int.natAbs_tmod x 10;split<;>omega
theorem Zf (x:Int):(x.tdiv 10).natAbs=x.natAbs / 10:=Int.natAbs_tdiv x 10
theorem Ajh {k:Nat} (h:k<10):IntKind.u8.wrap (IntKind.i64.wrap (48+(k:Int)))=((48+k:Nat):Int):=by
 have e:IntKind.i64.wrap (48+(k:Int))=48+(k:Int):=Ah (by omega);rw[e];simp only[IntKind.wrap,IntKind.bits,IntKind.signed,Bool.false_and,Qc7,Qe4];have:(2 ^ 8:Int)=256:=rfl;omega
theorem XS {k:Nat} (h:k<10):List.foldl (fun(r:ByteArray) (n:Int)=>r.push (UInt8.ofNat n.toNat)) ByteArray.empty [((48+k:Nat):Int)]=⟨#[UInt8.ofNat (48+k)]⟩:=by
 simp only[List.foldl,Qg6];rfl
end Go.D
namespace Go.D
def JD (b:UInt8):List UInt8->List (List UInt8)
 | []=>[[]]
 | x::l=>if x=b then[]::JD b l else match JD b l with
  | []=>[[x]]
  | h::t=>(x::h)::t
theorem HG (b:UInt8) (l:List UInt8):JD b l≠[]:=by
 cases l with
 | nil=>simp[JD]
 | cons x l=>
  unfold JD;split
  ·simp
  ·split<;>simp
def KC (p:List UInt8):List (List UInt8)->List (List UInt8)
 | []=>[p]
 | h::t=>(p++h)::t
theorem PV {l:List (List UInt8)} (h:l≠[]):KC [] l=l:=by
 cases l with
 | nil=>exact absurd rfl h
 | cons x l=>rfl
theorem D9 (b x:UInt8) (l:List UInt8):JD b (x::l)=if x=b then[]::JD b l else KC [x] (JD b l):=by
 rw[JD];split
 ·rfl
 ·have:=HG b l;cases h:JD b l with
  | nil=>exact absurd h this
  | cons y t=>rfl
theorem P1 (p q:List UInt8) {l:List (List UInt8)} (h:l≠[]):KC p (KC q l)=KC (p++q) l:=by
 cases l with
 | nil=>exact absurd rfl h
 | cons x l=>simp[KC]
theorem Ma (p h:List UInt8) (t:List (List UInt8)):KC p (h::t)=(p++h)::t:=rfl
theorem RS {b:UInt8}:∀ {p:List UInt8} (l:List UInt8),b∉p->JD b (p++b::l)=p::JD b l
 | [],l,_=>by rw[Qg2,D9,Qa2 rfl]
 | x::p,l,h=>by simp only[Qd3,not_or] at h;rw[Qf4,D9,Qa3 (fun e=>h.1 e.symm),RS l h.2];rfl
theorem OX {b:UInt8}:∀ {p:List UInt8},b∉p->JD b p=[p]
 | [],_=>rfl
 | x::p,h=>by simp only[Qd3,not_or] at h;rw[D9,Qa3 (fun e=>h.1 e.symm),OX h.2];rfl
theorem Ni (b:UInt8):∀ l:List UInt8,(JD b l).length<=l.length+1/\∀ p∈JD b l,p.length<=l.length
 | []=>by simp[JD]
 | x::l=>by
  obtain⟨h1,h2⟩:=Ni b l;rw[D9];split
  ·refine⟨by simp only[Qa6];omega,fun p hp=>?_⟩;rcases Qd3.1 hp with rfl|hp
   ·simp
   ·have:=h2 p hp;simp only[Qa6];omega
  ·cases h:JD b l with
   | nil=>exact absurd h (HG b l)
   | cons y t=>
    rw[h] at h1 h2;refine⟨by simp only[KC,Qa6] at h1 ⊢;omega,fun p hp=>?_⟩;simp only[KC,Qd3] at hp;rcases hp with rfl|hp
    ·have:=h2 y Qf1;simp only[Qa4,Qa6,Qb5];omega
    ·have:=h2 p (Qd5 _ hp);simp only[Qa6];omega
def ofL (l:List UInt8):ByteArray:=⟨l.toArray⟩
def toL (s:ByteArray):List UInt8:=s.data.toList
theorem C9 (s:ByteArray):ofL (toL s)=s:=by simp[ofL,toL]
theorem IZ (l:List UInt8):toL (ofL l)=l:=by simp[ofL,toL]
theorem Bx (s:ByteArray):(toL s).length=s.size:=rfl
theorem Fa (l:List UInt8):(ofL l).size=l.length:=by simp[ofL,ByteArray.size]
theorem Ek (s t:ByteArray):toL (s++t)=toL s++toL t:=by simp[toL]
theorem Hd (l m:List UInt8):ofL (l++m)=ofL l++ofL m:=by
 apply ByteArray.ext;simp[ofL]
theorem A2 (s:ByteArray) (a b:Nat):toL (s.extract a b)=((toL s).take b).drop a:=by
 simp[toL,List.drop_take]
def spl (b:UInt8) (s:ByteArray):List ByteArray:=(JD b (toL s)).map ofL
def ID (b:UInt8) (s:ByteArray) (a i:Nat):List ByteArray:=if i<=s.size then(KC (((toL s).take i).drop a) (JD b ((toL s).drop i))).map ofL else[]
theorem Uy (b:UInt8) (s:ByteArray):ID b s 0 0=spl b s:=by
 unfold ID spl;rw[Qa2 (Nat.zero_le _)];simp[PV (HG b _)]
theorem Oz (b:UInt8) {s:ByteArray} {a i:Nat} (h:s.size<i):ID b s a i=[]:=by
 unfold ID;rw[Qa3 (by omega)]
theorem Ur (b:UInt8) {s:ByteArray} {a i:Nat} (h:i=s.size):ID b s a i=[s.extract a i]:=by
 subst h;unfold ID;rw[Qa2 (Qb0 _),Qb9 (l:=toL s) (i:=s.size) (by rw[Bx];exact Qb0 _)];rw[JD,Ma,Qd7,Qc9,<-A2,C9];rfl
theorem Hj {s:ByteArray} {i:Nat} (h:i<s.size):(toL s).drop i=s.data.getD i 0::(toL s).drop (i+1):=by
 have h2:i<s.data.size:=h;have e:s.data.getD i 0=s.data[i]:=by unfold Array.getD;rw[dif_pos h2];rfl
 rw[List.drop_eq_getElem_cons (by rw[Bx];exact h),e];rfl
theorem Wn {b:UInt8} {s:ByteArray} {a i:Nat} (h:i<s.size) (hb:s.data.getD i 0=b):ID b s a i=s.extract a i::ID b s (i+1) (i+1):=by
 unfold ID;rw[Qa2 (by omega),Qa2 (by omega),Hj h,D9,Qa2 hb];rw[Ma,Qd7,Qc9,<-A2,C9,Qb9 (l:=(toL s).take (i+1)) (i:=i+1) (by rw[Qc5];omega),PV (HG b _)]
theorem TL {b:UInt8} {s:ByteArray} {a i:Nat} (h:i<s.size) (ha:a<=i) (hb:s.data.getD i 0≠b):ID b s a i=ID b s a (i+1):=by
 unfold ID;rw[Qa2 (by omega),Qa2 (by omega),Hj h,D9,Qa3 hb,P1 _ _ (HG b _)];congr 2;have:(toL s).take (i+1)=(toL s).take i++[s.data.getD i 0]:=by
  have h2:i<s.data.size:=h;have e:s.data.getD i 0=s.data[i]:=by unfold Array.getD;rw[dif_pos h2];rfl
  rw[List.take_succ_eq_append_getElem (by rw[Bx];exact h),e];rfl
 rw[this,List.drop_append_of_le_length (by rw[Qc5,Bx];omega)]
theorem Sj (b:UInt8):∀ l:List UInt8,((JD b l).map fun p=>p.length+1).sum=l.length+1
 | []=>rfl
 | x::l=>by
  have h:=Sj b l;rw[D9];split
  ·simp only[Qc9,List.sum_cons,Qb5,Qa6,h];omega
  ·cases hq:JD b l with
   | nil=>exact absurd hq (HG b l)
   | cons y t=>
    rw[hq] at h;simp only[Qc9,List.sum_cons,KC,Qa4,Qa6,Qb5] at h ⊢;omega
theorem DH (b:UInt8) (s:ByteArray):0<(spl b s).length/\(spl b s).length<=s.size+1:=by
 have h:=Ni b (toL s);have h2:=HG b (toL s);rw[Bx] at h;unfold spl;rw[Qf5];exact⟨List.length_pos_iff.2 h2,h.1⟩
theorem HR {b:UInt8} {s x:ByteArray} (h:x∈spl b s):x.size<=s.size:=by
 unfold spl at h;obtain⟨p,hp,rfl⟩:=Qg5.1 h;rw[Fa];exact(Ni b (toL s)).2 p hp
def Ey (b:UInt8):List UInt8->Option (List UInt8×List UInt8)
 | []=>none
 | x::l=>if x=b then some ([],l) else(Ey b l).map fun r=>(x::r.1,r.2)
theorem Lq {b:UInt8}:∀ {l:List UInt8},b∉l->Ey b l=none
 | [],_=>rfl
 | x::l,h=>by simp only[Qd3,not_or] at h;rw[Ey,Qa3 (fun e=>h.1 e.symm),Lq h.2];rfl
theorem NK {b:UInt8}:∀ {p:List UInt8} (l:List UInt8),b∉p->Ey b (p++b::l)=some (p,l)
 | [],l,_=>by rw[Qg2,Ey,Qa2 rfl]
 | x::p,l,h=>by simp only[Qd3,not_or] at h;rw[Qf4,Ey,Qa3 (fun e=>h.1 e.symm),NK l h.2];rfl
theorem Xh {b:UInt8} {s:ByteArray} {i:Nat} (h:i<s.size) (hb:s.data.getD i 0=b) (hn:b∉(toL s).take i):Ey b (toL s)=some ((toL s).take i,(toL s).drop (i+1)):=by
 have e:toL s=(toL s).take i++b::(toL s).drop (i+1):=by rw[<-hb,<-Hj h,Qd8]
 rw[e,NK _ hn,<-e]
theorem Yr {b:UInt8} {s:ByteArray} {i:Nat} (h:i<s.size) (hb:s.data.getD i 0≠b) (hn:b∉(toL s).take i):b∉(toL s).take (i+1):=by
 have h2:i<s.data.size:=h;have e:s.data.getD i 0=s.data[i]:=by unfold Array.getD;rw[dif_pos h2];rfl
 rw[List.take_succ_eq_append_getElem (by rw[Bx];exact h),Qc0,not_or];refine⟨hn,?_⟩;simp only[List.mem_singleton];intro h3;exact hb (by rw[e];exact h3.symm)
end Go.D
namespace Go.D
open Go.Sort
def pv:Ty->Bool
 | .int=>true
 | .bool=>true
 | .str=>true
 | .u8=>true
 | _=>false
def vOf (t:Ty) (x:El t):Value:=match enc t x with
 | [.val v]=>v
 | _=>undef
def GQ:(as:List Ak)->As as->List Value
 | [],_=>[]
 | .v (.el t)::as,x=>vOf t x.1::GQ as x.2
 | _::as,x=>undef::GQ as x.2
def HK:List Ak->Bool
 | []=>true
 | .v (.el t)::as=>pv t&&HK as
 | _::_=>false
def FY:List Sh->Bool
 | []=>true
 | .el t::rs=>pv t&&FY rs
 | _::_=>false
def HE:(rs:List Sh)->Ts rs->List Value
 | [],_=>[]
 | .el t::rs,x=>vOf t x.1::HE rs x.2
 | .sl _::rs,x=>undef::HE rs x.2
def AdB:List Value->Value
 | [v]=>v
 | vs=>.tuple vs.toArray
theorem VW {t:Ty} (h:pv t=true) (x:El t):enc t x=[.val (vOf t x)]/\plain (vOf t x)=true/\(Sh.el t).agg=false:=by
 cases t<;>first|exact⟨rfl,rfl,rfl⟩|cases h
theorem ML {w:World} {G:Gh}:∀ (as:List Ak) (x:As as),HK as=true->∀ (vs:List Value),vs.length=(D0 as x).length->(∀ (j:Nat) (y:TV),(D0 as x)[j]? = some y->∃ v,vs[j]? = some v/\TVR w G y v)->vs=GQ as x:=by
 intro as
 induction as with
 | nil=>intro x _ vs hl _;exact List.eq_nil_of_length_eq_zero hl
 | cons a as ih=>
  intro x hp vs hl hh;cases a with
  | v s=>
   cases s with
   | el t=>
    simp only[HK,Qa1] at hp;obtain⟨e1,e2,e3⟩:=VW hp.1 x.1;cases vs with
    | nil=>simp[D0] at hl
    | cons v vs=>
     obtain⟨v',hv,hr⟩:=hh 0 _ rfl;simp only[List.getElem?_cons_zero,Qa0] at hv;subst hv;have hc:Aah (.v (.el t)) x.1=.v false [.sc (vOf t x.1)]:=by show TV.v (Sh.el t).agg ((enc t x.1).map (toCell none))=_;rw[e1,e3];rfl
     rw[hc] at hr;obtain⟨c,hc1,hc2⟩:=hr;injection hc1 with hc1
     subst hc1;rw[GQ,hc2.1,ih x.2 hp.2 vs (by simpa [D0] using hl) fun j y hj=>hh (j+1) y hj]
   | sl t=>simp[HK] at hp
  | _=>simp[HK] at hp
theorem Kd:∀ (rs:List Sh) (y:Ts rs),FY rs=true->IV rs y=(HE rs y).map fun v=>(false,[FC.val v]):=by
 intro rs
 induction rs with
 | nil=>intro y _;rfl
 | cons s rs ih=>
  intro y hp;cases s with
  | el t=>
   simp only[FY,Qa1] at hp;obtain⟨e1,e2,e3⟩:=VW hp.1 y.1;simp only[IV,HE,Qc9,ih y.2 hp.2,e3];congr 2
  | sl t=>simp[FY] at hp
theorem OY:∀ (rs:List Sh) (y:Ts rs),FY rs=true->∀ v∈HE rs y,plain v=true:=by
 intro rs
 induction rs with
 | nil=>intro y _ v hv;cases hv
 | cons s rs ih=>
  intro y hp v hv;cases s with
  | el t=>
   simp only[FY,Qa1] at hp;rcases Qd3.1 hv with rfl|hv
   ·exact(VW hp.1 y.1).2.1
   ·exact ih y.2 hp.2 v hv
  | sl t=>simp[FY] at hp
theorem Abx {w:World}:∀ (vs:List Value),(∀ v∈vs,plain v=true)->ResR w (Uj (vs.map fun v=>(false,[FC.val v]))) (AdB vs) (fun _ _ _=>False)
 | [],_=>⟨#[],rfl,rfl,by simp⟩
 | [v],h=>by
  refine⟨_,rfl,⟨rfl,h v (by simp)⟩,LJ (h v (by simp))⟩
 | v::u::vs,h=>by
  refine⟨(v::u::vs).toArray,rfl,by simp,fun i p hp=>?_⟩;have hp:((v::u::vs).map fun v=>(false,[FC.val v]))[i]? = some p:=hp;rw[Qc2] at hp;cases hq:(v::u::vs)[i]? with
  | none=>rw[hq] at hp;cases hp
  | some x=>
   rw[hq] at hp;injection hp with hp
   subst hp;have:=h x (Qf7 hq);exact⟨x,by simpa using hq,_,rfl,⟨rfl,this⟩,LJ this⟩
theorem SE {P:Program} {f:Nat} {S:Fct} (ha:HK S.as=true) (hr:FY S.rs=true)
 (h:∀ x,S.pre x->∀ (w:World) (ow:Nat->Own),Base P w ow->Calls P f (GQ S.as x).toArray w fun e w'=>e=.returned (AdB (HE S.rs (S.fn x)))/\∃ n os,w'=grow (w.drewN n) os):S.ok P f:=by
 intro x hx w vs G hB hA;have hvs:vs=(GQ S.as x).toArray:=by
  have:=ML (w:=w) (G:=G) S.as x ha vs.toList (by simpa [Fct.arg] using hA.sz) fun j y hj=>by obtain⟨v,hv,hr⟩:=hA.tm j y hj;exact⟨v,by simpa using hv,hr⟩
  rw[<-this]
 subst hvs;refine(h x hx w _ hB).mono ?_;rintro e w' ⟨rfl,n,os,rfl⟩;have hold:∀ g,g<w.heap.size->(grow (w.drewN n) os).heap[g]? = w.heap[g]?:=fun g hg=>by rw[heap_grow_old _ _ (show g<(w.drewN n).heap.size from hg)];rfl
 refine⟨_,⟨mkR S.rs (S.fn x),[],[]⟩,rfl,rfl,⟨rfl,rfl,⟨rfl,by first|exact DrLe.refl _|exact DrLe.succ _|exact DrLe.add _ _⟩,?_⟩,fun g hg=>hold g (hA.lt g (by simp[hg])),fun g hg=>(hA.cr g hg).same (hold g (hA.lt g (by simp[hg]))),fun _ _=>False,by simp,by simp,?_,?_,?_⟩
 ·show w.heap.size<=(w.heap++os).size;simp
 ·show ResR _ (Uj (IV S.rs (S.fn x))) _ _;rw[Kd _ _ hr];exact Abx _ (OY _ _ hr)
 ·intro m T hm;cases hm
 ·intro b cs hb;cases hb
theorem Abp (w:World):w=grow (w.drewN 0) #[]:=by
 simp[grow,World.drewN]
end Go.D
namespace Go.D
open Go.RowKit
theorem P2 (w:World) (r:Array Value) (T:TypeId) (j:Nat) (v:Value):(w.alloc (.cells r T)).setCell ⟨w.heap.size,j,none⟩ v=w.alloc (.cells (r.setIfInBounds j v) T):=by
 rw[setCell_eq_setRow _ _ _ r T (0,0) v (heap_alloc_last w _),World.setRow_alloc_new]
theorem Ep (w:World) (r:Array Value) (T:TypeId) (j:Nat):(w.alloc (.cells r T)).cell? ⟨w.heap.size,j,none⟩=r[j]?:=cell_of_row _ _ j r T (0,0) (heap_alloc_last w _)
theorem Ns (w:World) (r:Array Value) (T:TypeId) (j:Nat):(w.alloc (.cells r T)).frozen? ⟨w.heap.size,j,none⟩=false:=by
 simp only[World.frozen?,heap_alloc_last];simp
theorem SD {r:Array Value} {i:Nat} {v:Value} (hi:i<r.size) (t:Nat):(r.setIfInBounds i v)[t]? = if t=i then some v else r[t]?:=by
 rw[Array.getElem?_setIfInBounds];by_cases h:i=t
 ·subst h;simp[hi]
 ·rw[Qa3 h,Qa3 (fun e=>h e.symm)]
structure Neu (w w':World):Prop where
 os:w'.os=w.os
 tape:w'.tape=w.tape
 output:w'.output=w.output
 drawn:DrLe w.drawn w'.drawn
 size:w.heap.size<=w'.heap.size
 old:∀ g,g<w.heap.size->w'.heap[g]? = w.heap[g]?
theorem Neu.refl (w:World):Neu w w:=⟨rfl,rfl,rfl,DrLe.refl _,Qb0 _,fun _ _=>rfl⟩
theorem Neu.drew {w w':World} (h:Neu w w'):Neu w w'.drew:=⟨h.os,h.tape,h.output,h.drawn.trans (DrLe.succ _),h.size,h.old⟩
theorem Neu.alloc {w w':World} (h:Neu w w') (o:Obj):Neu w (w'.alloc o):=⟨h.os,h.tape,h.output,h.drawn,by rw[World.size_alloc];have:=h.size;omega,fun g hg=>by
 rw[<-h.old g hg];show(w'.heap.push o)[g]? = _;rw[Array.getElem?_push,Qa3 (by have:=h.size;omega)]⟩
theorem Neu.set {w w':World} (h:Neu w w') {a:Addr} (ha:w.heap.size<=a.block) (v:Value):Neu w (w'.setCell a v):=⟨h.os,h.tape,h.output,h.drawn,by rw[World.size_setCell];exact h.size,fun g hg=>by
 rw[<-h.old g hg];unfold World.setCell;simp only[Array.getElem?_modify];rw[Qa3 (by omega)]⟩
theorem Neu.bytes {w w':World} (h:Neu w w') (e:TypeId) (s:ByteArray):Neu w (Lib.bytesWorld w' e s):=⟨h.os,h.tape,h.output,h.drawn.trans (DrLe.succ _),by rw[Lib.bytesWorld_size];have:=h.size;omega,fun g hg=>by
 rw[<-h.old g hg];exact Lib.bytesWorld_at_old w' e s g (by have:=h.size;omega)⟩
theorem Neu.put {w w':World} (h:Neu w w') {α:Type} [Inhabited α] (enc:α->Value) {b:Nat} (hb:w.heap.size<=b) (off:Nat) (d:Array α):Neu w (Go.Sort.putRow enc w' b off d):=⟨h.os,h.tape,h.output,h.drawn,by
 unfold Go.Sort.putRow Go.Sort.mapBlock;simp only[Array.size_modify];exact h.size,fun g hg=>by
 rw[<-h.old g hg];unfold Go.Sort.putRow Go.Sort.mapBlock;simp only[Array.getElem?_modify];rw[Qa3 (by omega)]⟩
theorem Neu.trans {a b c:World} (h:Neu a b) (k:Neu b c):Neu a c:=⟨k.os.trans h.os,k.tape.trans h.tape,k.output.trans h.output,h.drawn.trans k.drawn,Qe6 h.size k.size,fun g hg=>(k.old g (Qf6 hg h.size)).trans (h.old g hg)⟩
theorem Neu.below {w w':World} (h:Below w.heap.size w w'):Neu w w':=⟨h.os,h.tape,h.output,trivial,h.size,fun g hg=>h.block g hg⟩
theorem Neu.grow (w:World) (k:Nat) (os:Array Obj):Neu w (Go.Sort.grow (w.drewN k) os):=⟨rfl,rfl,rfl,DrLe.add _ _,by show w.heap.size<=(w.heap++os).size;simp,fun g hg=>by
 show(w.heap++os)[g]? = _;rw[Array.getElem?_append_left hg]⟩
theorem Neu.laid {P:Program} {w w':World} (h:Neu w w') (l:Laid P w):Laid P w' :=
 ⟨fun q=>Jh h.old (l.1 q),fun q=>let ⟨tp,p,hv⟩:=l.2.1 q;⟨tp,p,Jh h.old hv⟩,fun q=>let ⟨tp,p,hv⟩:=l.2.2 q;⟨tp,p,Jh h.old hv⟩⟩
theorem S5 {P:Program} {w:World} {n:String} {g:Nat} {x:Value} (hg:P.globalNamed n=some g) (h:w.var? P n=some #[x]):w.cell? ⟨g,0,none⟩=some x:=by
 unfold World.var? at h;rw[hg,Option.bind_some] at h;split at h
 ·rename_i cs e z hh;simp only[Qa0] at h;subst h;simp[World.cell?,hh]
 ·cases h
open Go.Sort in
theorem QI {P:Program} {f:Nat} {S:Fct} (ha:HK S.as=true) (hr:FY S.rs=true)
 (h:∀ x,S.pre x->∀ (w:World) (ow:Nat->Own),Base P w ow->Calls P f (GQ S.as x).toArray w fun e w'=>e=.returned (AdB (HE S.rs (S.fn x)))/\Neu w w'):S.ok P f:=by
 intro x hx w vs G hB hA;have hvs:vs=(GQ S.as x).toArray:=by
  have:=ML (w:=w) (G:=G) S.as x ha vs.toList (by simpa [Fct.arg] using hA.sz) fun j y hj=>by obtain⟨v,hv,hr⟩:=hA.tm j y hj;exact⟨v,by simpa using hv,hr⟩
  rw[<-this]
 subst hvs;refine(h x hx w _ hB).mono ?_;rintro e w' ⟨rfl,hn⟩;refine⟨_,⟨mkR S.rs (S.fn x),[],[]⟩,rfl,rfl,⟨hn.os,hn.tape,⟨hn.output,hn.drawn⟩,hn.size⟩,fun g hg=>hn.old g (hA.lt g (by simp[hg])),fun g hg=>(hA.cr g hg).same (hn.old g (hA.lt g (by simp[hg]))),fun _ _=>False,by simp,by simp,?_,?_,?_⟩
 ·show ResR _ (Uj (IV S.rs (S.fn x))) _ _;rw[Kd _ _ hr];exact Abx _ (OY _ _ hr)
 ·intro m T hm;cases hm
 ·intro b cs hb;cases hb
end Go.D
