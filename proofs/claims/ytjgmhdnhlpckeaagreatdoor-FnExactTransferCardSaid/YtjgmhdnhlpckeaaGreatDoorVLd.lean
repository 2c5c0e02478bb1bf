/-
  The library of the proof, part 4.
-/
import Derived.Test.YtjgmhdnhlpckeaaGreatDoorVLc
import Derived.Lib.Bytealg
import Derived.Sort.LotA
import Derived.Laws.Strings
import Derived.Lib.ItoaNum
import Derived.Sort.Grow
import Derived.Deep.Draws
import Derived.Deep.WholeRow
import Derived.Laws.CopyRow
import Derived.Laws.NewBlocks
import Derived.Lib.ConvBytes
set_option linter.unusedVariables false
set_option linter.unusedSimpArgs false
namespace Go.D
set_option linter.unusedSimpArgs false
section
variable {P:Program} {E:Env} {m:Nat} {fn:Func} {t:Ty}
def szF (s:Sh) (f:s.X->Nat):Fct:=⟨[.v s,aI],[rI],fun(x:s.X×Int×Unit)=>Sh.good s x.1/\0<=x.2.1/\x.2.1<=1048576,fun(x:s.X×Int×Unit)=>(lessen x.2.1 (f x.1),())⟩
def szX (t:Ty) (f:El t->Nat) (l:List (El t)) (n:Int):Out :=
 .br (decide (wr (n-(l.length:Int))<0)) (.lf (szF (.sl t) (szL f)) ((-1:Int),()))
  (lpx (Afk t f l n) (wr (n-(l.length:Int)),((0:Int),())) fun(y2:Int×Int×PUnit) bk2=>
   .br (decide (y2.2.1<(l.length:Int)))
    (.ob (inB y2.2.1 l.length)<|.cl (szF (.el t) f) (l.getD y2.2.1.toNat default,y2.1,()) fun z2=>.br (decide (z2.1<0)) (.lf (szF (.sl t) (szL f)) ((-1:Int),())) (.ob (l=l)<|.ob (bk2 (z2.1,(w1 y2.2.1,())))<|.ok))
    (.lf (szF (.sl t) (szL f)) (y2.1,())))
theorem Ahp {f:El t->Nat} {l:List (El t)} {n:Int} (hp0:(szF (.sl t) (szL f)).pre (l,n,())):(szX t f l n).holds ((szF (.sl t) (szL f)).ctr (l,n,())).post:=by
 have hp:Sh.good (.sl t) l/\0<=n/\n<=1048576:=hp0;clear hp0;refine Ab (fun h1=>lfY ?_) (fun h1=>Aw ?_ fun(y2:Int×Int×PUnit) i2=>Ab (fun h3=>Aa ?_ fun o4=>Ae ?_ fun o5=>(Ab (fun h6=>lfY ?_) (fun h6=>Aa rfl fun _=>Aa ?_ fun o7=>trivial))) (fun h3=>lfY ?_));all_goals try simp only[AA] at *
 all_goals try simp only[Afk,szF,AhP,Nat.reduceAdd] at *
 ·have:=good_len hp.1;simp only[maxLen] at this;rw[Ah (by omega)] at h1;rw[FN (by simp only[szL];omega)]
 ·have:=good_len hp.1;simp only[maxLen] at this;rw[Ah (by omega)] at h1 ⊢;exact⟨by omega,by omega,h1,by simp⟩
 ·omega
 ·exact⟨Pu hp.1 (by omega),by omega,by omega⟩
 ·have hs:=Gg f l (y2.2.1.toNat+1);rw[Ik f (by omega)] at hs;rw[GU (by omega)] at h6;rw[FN (by simp only[szL];omega)]
 ·have hw:IntKind.i64.wrap (y2.2.1+1)=y2.2.1+1:=Ah (by have:=good_len hp.1;simp only[maxLen] at this;omega);have h7:¬ lessen y2.1 (f (l.getD y2.2.1.toNat default))<0:=by omega
  rw[GU (by omega)] at h7;rw[hw,toNat1 (by omega),Ik f (by omega),GC (by omega)];exact⟨⟨by omega,by omega,by omega,by omega⟩,by omega⟩
 ·have e:l.take y2.2.1.toNat=l:=Qb3 (by omega);rw[e] at i2;have hz:((szL f l:Nat):Int)=l.length+(l.map f).sum:=by simp only[szL];omega
  rw[GC (by omega)];show y2.1=n-((szL f l:Nat):Int);omega
theorem szS {f:El t->Nat} (kp:List Nat) (hE:EOk P E) (hf:P.funcs[m]? = some fn)
 (h:∀ l k,Fo P E (fun|5=>some (Afk t f l k)|_=>none) kp [] fn ((szF (.sl t) (szL f)).arg (l,k,()))=szX t f l k)
 (hc:(fn.body.isSome&&decide (2<=fn.ntmps))=true:=by kernel_rfl):(szF (.sl t) (szL f)).ok P m:=by
 rw[Qa1] at hc;exact Fct.of (S:=szF (.sl t) (szL f)) (L:=fun x=>fun|5=>some (Afk t f x.1 x.2.1)|_=>none) hE hf hc.1 hc.2 fun x hx=>⟨(h x.1 x.2.1)▸Ahp hx⟩
inductive SzI:Type
 | p (k:Nat)
 | c (s:Sh) (f:s.X->Nat) (x:s.X)
def SzI.n:SzI->Nat
 | .p k=>k
 | .c _ f x=>f x
def SzI.ok:SzI->Prop
 | .p k=>k<=maxLen
 | .c s _ x=>Sh.good s x
def Ag2 (a:Nat):List SzI->Nat
 | []=>a
 | i::is=>Ag2 (a+i.n) is
def Adt:List SzI->Nat
 | []=>0
 | i::is=>Ag2 i.n is
def Fl:List SzI->Prop
 | []=>True
 | i::is=>i.ok/\Fl is
def PW:List SzI->Nat
 | []=>0
 | i::is=>i.n+PW is
theorem Wg:∀ (is:List SzI) (a:Nat),Ag2 a is=a+PW is
 | [],a=>rfl
 | i::is,a=>by rw[Ag2,Wg is,PW];omega
theorem Abh (is:List SzI):Adt is=PW is:=by
 cases is with
 | nil=>rfl
 | cons i is=>rw[Adt,Wg];rfl
def szC (s:Sh) (f:s.X->Nat):List SzI->Int->Out
 | [],k=>.lf (szF s f) (k,())
 | .p a::r,k=>.br (decide (wr (k-(a:Int))<0)) (.lf (szF s f) ((-1:Int),())) (szC s f r (wr (k-(a:Int))))
 | .c s' f' x::r,k=>.cl (szF s' f') (x,k,()) fun z=>.br (decide (z.1<0)) (.lf (szF s f) ((-1:Int),())) (szC s f r z.1)
theorem Aeg {s:Sh} {f:s.X->Nat} {x:s.X} {n:Int}:∀ (is:List SzI) (k:Int),0<=k->k<=1048576->Fl is->lessen n (f x)=lessen k (PW is)->(szC s f is k).holds ((szF s f).ctr (x,n,())).post
 | [],k,h0,h1,_,h=>lfY (by show(k,())=(lessen n (f x),());rw[h,PW,GC (by omega)];simp)
 | .p a::r,k,h0,h1,ho,h=>by
  have ha:a<=maxLen:=ho.1;simp only[maxLen] at ha;have e:wr (k-(a:Int))=k-a:=Ah (by omega);simp only[PW,SzI.n] at h;refine Ab (fun hb=>lfY ?_) (fun hb=>?_)
  ·rw[e] at hb;simp only[Qa7] at hb;show((-1:Int),())=(lessen n (f x),());rw[h,FN (by omega)]
  ·rw[e] at hb ⊢;simp only[Qb0] at hb;refine Aeg r _ (by omega) (by omega) ho.2 ?_;rw[h];unfold lessen;split<;>split<;>omega
 | .c s' f' y::r,k,h0,h1,ho,h=>by
  simp only[PW,SzI.n] at h;refine Ae ⟨ho.1,h0,h1⟩ fun _=>?_
  refine Ab (fun hb=>lfY ?_) (fun hb=>?_)
  ·have hb:decide (lessen k (f' y)<0)=true:=hb;simp only[Qa7] at hb;rw[GU h0] at hb;show((-1:Int),())=(lessen n (f x),());rw[h,FN (by omega)]
  ·have hb:decide (lessen k (f' y)<0)=false:=hb;simp only[Qb0] at hb;have e:lessen k (f' y)=k-f' y:=by rw[GU h0] at hb;exact GC (by omega)
   rw[GU h0] at hb;show(szC s f r (lessen k (f' y))).holds _;rw[e];refine Aeg r _ (by omega) (by omega) ho.2 ?_;rw[h];unfold lessen;split<;>split<;>omega
theorem szT {s:Sh} {f:s.X->Nat} (kp:List Nat) (is:s.X->List SzI) (hE:EOk P E) (hf:P.funcs[m]? = some fn)
 (h:∀ x k,Fo P E (fun _=>none) kp [] fn ((szF s f).arg (x,k,()))=szC s f (is x) k)
 (hs:∀ x,f x=Adt (is x)) (hg:∀ x,Sh.good s x->Fl (is x))
 (hc:(fn.body.isSome&&decide (2<=fn.ntmps))=true:=by kernel_rfl):(szF s f).ok P m:=by
 rw[Qa1] at hc;refine Fct.of (S:=szF s f) (L:=fun _ _=>none) hE hf hc.1 hc.2 fun x hx=>⟨(h x.1 x.2.1)▸Aeg (is x.1) x.2.1 hx.2.1 hx.2.2 (hg _ hx.1) ?_⟩
 rw[hs,Abh]
def toF (s:Sh) (f:s.X->Nat):Fct:=⟨[.v s],[s],fun(x:s.X×Unit)=>f x.1<=1048576,fun(x:s.X×Unit)=>(x.1,())⟩
def toX (t:Ty) (f:El t->Nat) (c:Int) (l:List (El t)):Out :=
 .ob ((l.length:Int)=(l.length:Int)/\(0:Int)<=(l.length:Int)/\c*(l.length:Int)<=140737488355328/\(l.length:Int)<=140737488355328) <|
 lpx (Zk t l) ((0:Int),(List.replicate (l.length:Int).toNat default,())) fun(y2:Int×List (El t)×PUnit) bk2=>
  .br (decide (y2.1<(l.length:Int)))
   (.ob (inB y2.1 l.length)<|.cl (toF (.el t) f) (l.getD y2.1.toNat default,()) fun z2=>.ob (inB y2.1 y2.2.1.length)<|.ob (y2.1.toNat<y2.2.1.length) <|
    .lt (List (El t)) (y2.2.1.modify y2.1.toNat fun z=>z2.1) fun z3=>.ob (l=l)<|.ob (bk2 (w1 y2.1,(z3,())))<|.ok)
   (.lf (toF (.sl t) (szL f)) (y2.2.1,()))
theorem AhX {f:El t->Nat} {c:Int} (hc:0<=c/\c<=100000000) {l:List (El t)} (hp0:(toF (.sl t) (szL f)).pre (l,())):(toX t f c l).holds ((toF (.sl t) (szL f)).ctr (l,())).post:=by
 have hp:szL f l<=1048576:=hp0;clear hp0;refine Aa ?_ fun o1=>Aw ?_ fun(y2:Int×List (El t)×PUnit) i2=>Ab (fun h3=>Aa ?_ fun o4=>Ae ?_ fun o5=>(Aa ?_ fun o6=>Aa ?_ fun o7=>Dh (Aa rfl fun _=>Aa ?_ fun o8=>trivial))) (fun h3=>lfY ?_)
 all_goals try simp only[AA] at *
 all_goals try simp only[Zk,toF,AhP,Nat.reduceAdd] at *
 all_goals have hL:=Ad f l
 ·refine⟨by omega,?_,by omega⟩;have:=Int.mul_le_mul hc.2 (show(l.length:Int)<=1048576 by omega) (by omega) (by omega);omega
 ·exact⟨by omega,by omega,by simp⟩
 ·omega
 ·have hs:=Gg f l (y2.1.toNat+1);rw[Ik f (by omega)] at hs;simp only[szL] at hp;omega
 ·rw[i2.2.2];simp;omega
 ·rw[i2.2.2];simp;omega
 ·have hw:IntKind.i64.wrap (y2.1+1)=y2.1+1:=Ah (by omega);rw[hw,toNat1 (by omega),i2.2.2];refine⟨⟨by omega,by omega,?_⟩,by omega⟩;rw[show l.length-y2.1.toNat=(l.length-(y2.1.toNat+1))+1 from by omega,List.replicate_succ,GP (by simp;omega),take_succ (by omega)];simp
 ·have e:l.take y2.1.toNat=l:=Qb3 (by omega);rw[i2.2.2,e];simp;omega
theorem toS {f:El t->Nat} (kp:List Nat) (c:Int) (hE:EOk P E) (hf:P.funcs[m]? = some fn)
 (h:∀ l,Fo P E (fun|3=>some (Zk t l)|_=>none) kp [] fn ((toF (.sl t) (szL f)).arg (l,()))=toX t f c l)
 (hc:(fn.body.isSome&&decide (1<=fn.ntmps)&&decide (0<=c/\c<=100000000))=true:=by kernel_rfl):(toF (.sl t) (szL f)).ok P m:=by
 rw[Qa1,Qa1] at hc;exact Fct.of (S:=toF (.sl t) (szL f)) (L:=fun x=>fun|3=>some (Zk t x.1)|_=>none) hE hf hc.1.1 hc.1.2 fun x hx=>⟨(h x.1)▸AhX (Qf9 hc.2) hx⟩
structure ToI where
 s:Sh
 f:s.X->Nat
 x:s.X
abbrev ToX:List ToI->Type
 | []=>Unit
 | i::is=>i.s.X×ToX is
def Ahd:(is:List ToI)->ToX is
 | []=>()
 | i::is=>(i.x,Ahd is)
def toC:(is:List ToI)->(ToX is->Out)->Out
 | [],K=>K ()
 | i::is,K=>.cl (toF i.s i.f) (i.x,()) fun z=>toC is fun zs=>K (z.1,zs)
def Fp:List ToI->Prop
 | []=>True
 | i::is=>i.f i.x<=1048576/\Fp is
theorem Agg {Q:Post}:∀ (is:List ToI) (K:ToX is->Out),Fp is->(K (Ahd is)).holds Q->(toC is K).holds Q
 | [],K,_,h=>h
 | i::is,K,ho,h=>Ae ho.1 fun _=>Agg is (fun zs=>K (i.x,zs)) ho.2 h
theorem toT {s:Sh} {f:s.X->Nat} (kp:List Nat) (is:s.X->List ToI) (K:(x:s.X)->ToX (is x)->s.X) (hE:EOk P E) (hf:P.funcs[m]? = some fn)
 (h:∀ x,Fo P E (fun _=>none) kp [] fn ((toF s f).arg (x,()))=toC (is x) fun z=>.lf (toF s f) (K x z,()))
 (hk:∀ x,K x (Ahd (is x))=x) (hg:∀ x,f x<=1048576->Fp (is x))
 (hc:(fn.body.isSome&&decide (1<=fn.ntmps))=true:=by kernel_rfl):(toF s f).ok P m:=by
 rw[Qa1] at hc;exact Fct.of (S:=toF s f) (L:=fun _ _=>none) hE hf hc.1 hc.2 fun x hx=>⟨(h x.1)▸Agg (is x.1) _ (hg _ hx) (lfY (by rw[hk];rfl))⟩
def eqF (s:Sh) [DecidableEq s.X] (p:s.X->Nat):Fct:=⟨[.v s,.v s],[rB],fun(x:s.X×s.X×Unit)=>p x.1<=1125899906842624,fun(x:s.X×s.X×Unit)=>(decide (x.1=x.2.1),())⟩
def obB (b:Bool) (x:Bool) (X:Out):Out:=match b with
 | true=>.ob (Value.bool x=Value.bool x) X
 | false=>X
def eqX (t:Ty) [DecidableEq (El t)] (v:Bool) (p:El t->Nat) (l m:List (El t)):Out :=
 .br ((l.length:Int) != (m.length:Int)) (.lf (eqF (.sl t) (szL p)) (false,()))
  (lpx (Zh t l m) ((0:Int),()) fun(y2:Int×PUnit) bk2=>
   .br (decide (y2.1<(l.length:Int)))
    (.ob (inB y2.1 l.length)<|.ob (inB y2.1 m.length)<|.cl (eqF (.el t) p) (l.getD y2.1.toNat default,m.getD y2.1.toNat default,()) fun z2=>
     .br (!z2.1) (.lf (eqF (.sl t) (szL p)) (false,()))
      (.ob (l=l)<|.ob (m=m)<|obB v ((l.length:Int) != (m.length:Int))<|.ob (bk2 (w1 y2.1,()))<|.ok))
    (.lf (eqF (.sl t) (szL p)) (true,())))
theorem Ahf {Q:Post} {b x:Bool} {X:Out} (h:X.holds Q):(obB b x X).holds Q:=by cases b<;>first|exact h|exact⟨rfl,h⟩
theorem AhK [DecidableEq (El t)] {v:Bool} {p:El t->Nat} {l m:List (El t)} (hp0:(eqF (.sl t) (szL p)).pre (l,m,())):(eqX t v p l m).holds ((eqF (.sl t) (szL p)).ctr (l,m,())).post:=by
 have hp0:szL p l<=1125899906842624:=hp0;have hp:l.length<=1125899906842624:=Qe7 (Ad p l) hp0;have hm:∀ i,i<l.length->p (l.getD i default)<=1125899906842624:=fun i hi=>by have:=DO p hi;omega
 clear hp0;refine Ab (fun h1=>lfY ?_) (fun h1=>Aw ?_ fun(y2:Int×PUnit) i2=>Ab (fun h3=>Aa ?_ fun o4=>Aa ?_ fun o4'=>Ae ?_ fun o5=>(Ab (fun h6=>lfY ?_) (fun h6=>Aa rfl fun _=>Aa rfl fun _=>Ahf (Aa ?_ fun o7=>trivial)))) (fun h3=>lfY ?_));all_goals try simp only[AA] at *
 all_goals try simp only[Zh,eqF,AhP,Nat.reduceAdd] at *
 ·rw[Qg2];rintro rfl;omega
 ·exact⟨by omega,by omega,by simp⟩
 ·omega
 ·omega
 ·exact hm _ (by omega)
 ·rw[Qg2];rintro rfl;exact absurd rfl h6
 ·have hw:IntKind.i64.wrap (y2.1+1)=y2.1+1:=Ah (by omega);rw[hw,toNat1 (by omega)];refine⟨⟨by omega,by omega,?_⟩,by omega⟩;rw[take_succ (by omega),take_succ (by omega),i2.2.2,h6]
 ·have e:l.take y2.1.toNat=l:=Qb3 (by omega);have e2:m.take y2.1.toNat=m:=Qb3 (by omega);rw[Qf2];rw[<-e,<-e2,i2.2.2]
theorem eqS [DecidableEq (El t)] {p:El t->Nat} (kp:List Nat) (v:Bool) (hE:EOk P E) (hf:P.funcs[m]? = some fn)
 (h:∀ l r,Fo P E (fun|4=>some (Zh t l r)|_=>none) kp [] fn ((eqF (.sl t) (szL p)).arg (l,r,()))=eqX t v p l r)
 (hc:(fn.body.isSome&&decide (2<=fn.ntmps))=true:=by kernel_rfl):(eqF (.sl t) (szL p)).ok P m:=by
 rw[Qa1] at hc;exact Fct.of (S:=eqF (.sl t) (szL p)) (L:=fun x=>fun|4=>some (Zh t x.1 x.2.1)|_=>none) hE hf hc.1 hc.2 fun x hx=>⟨(h x.1 x.2.1)▸AhK hx⟩
inductive EqI:Type
 | s (x y:ByteArray)
 | i (x y:Int)
 | b (x y:Bool)
 | c (s:Sh) (d:DecidableEq s.X) (p:s.X->Nat) (x y:s.X)
def EqI.tru:EqI->Prop
 | .s x y=>x=y
 | .i x y=>x=y
 | .b x y=>x=y
 | .c _ _ _ x y=>x=y
def EqI.ok:EqI->Prop
 | .c _ _ p x _=>p x<=1125899906842624
 | _=>True
def C0:List EqI->Prop
 | []=>True
 | i::is=>i.tru/\C0 is
def Ft:List EqI->Prop
 | []=>True
 | i::is=>i.ok/\Ft is
def eqC (s:Sh) [DecidableEq s.X] (p:s.X->Nat):List EqI->Out
 | []=>.lf (eqF s p) (true,())
 | .s u v::r=>.br (!u.toList==v.toList) (.lf (eqF s p) (false,())) (eqC s p r)
 | .i u v::r=>.br (u != v) (.lf (eqF s p) (false,())) (eqC s p r)
 | .b u v::r=>.br (!u==v) (.lf (eqF s p) (false,())) (eqC s p r)
 | .c s' d p' x y::r=>.cl (@eqF s' d p') (x,y,()) fun z=>.br (!z.1) (.lf (eqF s p) (false,())) (eqC s p r)
theorem AfW {s:Sh} [DecidableEq s.X] {p:s.X->Nat} {x y:s.X}:∀ (is:List EqI),Ft is->(x=y↔C0 is)->(eqC s p is).holds ((eqF s p).ctr (x,y,())).post
 | [],_,h=>lfY (by show(true,())=(decide (x=y),());rw[Qf2 (h.2 trivial)])
 | i::r,ho,h=>by
  have no:¬ i.tru->(Out.lf (eqF s p) (false,())).holds ((eqF s p).ctr (x,y,())).post:=fun hb=>lfY (by show(false,())=(decide (x=y),());rw[Qg2 fun e=>hb (h.1 e).1])
  have yes:i.tru->(eqC s p r).holds ((eqF s p).ctr (x,y,())).post:=fun hb=>AfW r ho.2 ⟨fun e=>(h.1 e).2,fun e=>h.2 ⟨hb,e⟩⟩
  cases i with
  | s u v=>exact Ab (fun hb=>no (by simpa [Af6,EqI.tru] using hb)) (fun hb=>yes (by simpa [Af6,EqI.tru] using hb))
  | i u v=>exact Ab (fun hb=>no (by simpa [EqI.tru] using hb)) (fun hb=>yes (by simpa [EqI.tru] using hb))
  | b u v=>exact Ab (fun hb=>no (by simpa [EqI.tru] using hb)) (fun hb=>yes (by simpa [EqI.tru] using hb))
  | c s' d p' u v=>exact Ae ho.1 fun _=>Ab (fun hb=>no (by simpa [EqI.tru,eqF] using hb)) (fun hb=>yes (by simpa [EqI.tru,eqF] using hb))
theorem eqT {s:Sh} [DecidableEq s.X] {p:s.X->Nat} (kp:List Nat) (is:s.X->s.X->List EqI) (hE:EOk P E) (hf:P.funcs[m]? = some fn)
 (h:∀ x y,Fo P E (fun _=>none) kp [] fn ((eqF s p).arg (x,y,()))=eqC s p (is x y))
 (hs:∀ x y,x=y↔C0 (is x y)) (hg:∀ x y,p x<=1125899906842624->Ft (is x y))
 (hc:(fn.body.isSome&&decide (2<=fn.ntmps))=true:=by kernel_rfl):(eqF s p).ok P m:=by
 rw[Qa1] at hc;exact Fct.of (S:=eqF s p) (L:=fun _ _=>none) hE hf hc.1 hc.2 fun x hx=>⟨(h x.1 x.2.1)▸AfW (is x.1 x.2.1) (hg _ _ hx) (hs _ _)⟩
end
inductive Fe (α:Type):Type
 | s (g:α->ByteArray) (u:α->ByteArray->α)
 | i (g:α->Int) (u:α->Int->α)
 | b (g:α->Bool) (u:α->Bool->α)
 | l (s:Sh) (n:s.X->Nat) (f:s.X->Int->s.X×Int) (g:α->s.X) (u:α->s.X->α)
def Bd {α:Type} (n:α->Nat) (f:α->Int->α×Int):Prop:=∀ x k,k<=(f x k).2/\(f x k).2<=k+64*n x/\f (f x k).1 k=f x k
section
variable {α:Type}
def Fe.mk1:Fe α->α->Int->α×Int
 | .s _ u,x,k=>(u x (JH k),k+1)
 | .i _ u,x,k=>(u x k,k+1)
 | .b _ u,x,k=>(u x (k.tmod 3==0),k+1)
 | .l _ _ f g u,x,k=>(u x (f (g x) k).1,(f (g x) k).2)
def mkA:List (Fe α)->α->Int->α×Int
 | [],x,k=>(x,k)
 | d::r,x,k=>mkA r (d.mk1 x k).1 (d.mk1 x k).2
def Fe.law:Fe α->Prop
 | .s g u=>(∀ x v,g (u x v)=v)/\∀ x,u x (g x)=x
 | .i g u=>(∀ x v,g (u x v)=v)/\∀ x,u x (g x)=x
 | .b g u=>(∀ x v,g (u x v)=v)/\∀ x,u x (g x)=x
 | .l _ n f g u=>Bd n f/\(∀ x v,g (u x v)=v)/\∀ x,u x (g x)=x
def Fe.same:Fe α->α->α->Prop
 | .s g _,x,y=>g x=g y
 | .i g _,x,y=>g x=g y
 | .b g _,x,y=>g x=g y
 | .l _ _ _ g _,x,y=>g x=g y
def AgX (d:Fe α):List (Fe α)->Prop
 | []=>True
 | e::r=>(∀ x k,d.same (e.mk1 x k).1 x)/\(∀ x k,e.same (d.mk1 x k).1 x)/\AgX d r
def Laws:List (Fe α)->Prop
 | []=>True
 | d::r=>d.law/\AgX d r/\Laws r
def Fe.isv:Fe α->α->Int->Prop
 | .s g _,x,k=>g x=JH k
 | .i g _,x,k=>g x=k
 | .b g _,x,k=>g x=(k.tmod 3==0)
 | .l _ _ f g _,x,k=>(f (g x) k).1=g x
def Fe.cost:Fe α->α->Nat
 | .l _ n _ g _,x=>64*n (g x)
 | _,_=>1
def D9:List (Fe α)->α->Nat
 | [],_=>0
 | d::r,x=>d.cost x+D9 r x
def AaS:List (Fe α)->Bool
 | []=>false
 | .l ..::r=>AaS r
 | _::_=>true
theorem Fe.same_trans {d:Fe α} {x y z:α} (h1:d.same x y) (h2:d.same y z):d.same x z:=by
 cases d<;>exact Eq.trans h1 h2
theorem Ha {d:Fe α} (h:d.law) (x:α) (k:Int):k<=(d.mk1 x k).2:=by
 cases d with
 | l s n f g u=>exact(h.1 _ _).1
 | _=>exact Int.le_add_one (Int.le_refl _)
theorem DN:∀ {r:List (Fe α)},Laws r->∀ (x:α) (k:Int),k<=(mkA r x k).2
 | [],_,x,k=>Int.le_refl _
 | d::r,h,x,k=>Int.le_trans (Ha h.1 x k) (DN h.2.2 _ _)
theorem Ql:∀ {r:List (Fe α)},Laws r->AaS r=true->∀ (x:α) (k:Int),k+1<=(mkA r x k).2
 | d::r,h,hp,x,k=>by
  have h2:=DN h.2.2 (d.mk1 x k).1 (d.mk1 x k).2;cases d with
  | l s n f g u=>exact Int.le_trans (Int.add_le_add_right (Ha h.1 x k) 1) (Ql h.2.2 hp _ _)
  | _=>exact h2
theorem M1 {d:Fe α}:∀ {r:List (Fe α)},AgX d r->∀ (x:α) (k:Int),d.same (mkA r x k).1 x
 | [],_,x,k=>by cases d<;>rfl
 | e::r,h,x,k=>Fe.same_trans (M1 h.2.2 _ _) (h.1 x k)
theorem Ach {d:Fe α} (h:d.law) {x:α} {k:Int} (hv:d.isv x k):(d.mk1 x k).1=x:=by
 cases d with
 | s g u=>show u x (JH k)=x;rw[<-(hv:g x=JH k)];exact h.2 x
 | i g u=>
  show u x k=x;have hv:g x=k:=hv
  conv=>lhs;rw[<-hv]
  exact h.2 x
 | b g u=>show u x (k.tmod 3==0)=x;rw[<-(hv:g x=(k.tmod 3==0))];exact h.2 x
 | l s n f g u=>show u x (f (g x) k).1=x;rw[(hv:(f (g x) k).1=g x)];exact h.2.2 x
theorem AcC {d:Fe α} (h:d.law) {x y:α} {k:Int} (hs:d.same y (d.mk1 x k).1):d.isv y k/\(d.mk1 y k).2=(d.mk1 x k).2:=by
 cases d with
 | s g u=>exact⟨(hs:g y=g (u x (JH k))).trans (h.1 _ _),rfl⟩
 | i g u=>exact⟨(hs:g y=g (u x k)).trans (h.1 _ _),rfl⟩
 | b g u=>exact⟨(hs:g y=g (u x (k.tmod 3==0))).trans (h.1 _ _),rfl⟩
 | l s n f g u=>
  have e:g y=(f (g x) k).1:=(hs:g y=g (u x (f (g x) k).1)).trans (h.2.1 _ _);have e2:=(h.1 (g x) k).2.2;rw[<-e] at e2;refine⟨?_,?_⟩
  ·show(f (g y) k).1=g y;rw[e2,e]
  ·show(f (g y) k).2=(f (g x) k).2;rw[e2]
theorem SJ {d:Fe α} {r:List (Fe α)} (h:Laws (d::r)) {x:α} {k:Int} (hx:(mkA (d::r) x k).1=x):d.isv x k/\(d.mk1 x k).1=x/\(mkA r x (d.mk1 x k).2).1=x:=by
 have hs:=M1 h.2.1 (d.mk1 x k).1 (d.mk1 x k).2;have hx':(mkA r (d.mk1 x k).1 (d.mk1 x k).2).1=x:=hx;rw[hx'] at hs;have hv:=(AcC h.1 hs).1;have e:=Ach h.1 hv;rw[e] at hx';exact⟨hv,e,hx'⟩
theorem M8:∀ {r:List (Fe α)},Laws r->∀ (x:α) (k:Int),mkA r (mkA r x k).1 k=mkA r x k
 | [],_,x,k=>rfl
 | d::r,h,x,k=>by have hs:=M1 h.2.1 (d.mk1 x k).1 (d.mk1 x k).2;obtain⟨hv,e2⟩:=AcC h.1 hs;have e:=Ach h.1 hv;have ih:=M8 h.2.2 (d.mk1 x k).1 (d.mk1 x k).2;show mkA r (d.mk1 (mkA r (d.mk1 x k).1 (d.mk1 x k).2).1 k).1 (d.mk1 (mkA r (d.mk1 x k).1 (d.mk1 x k).2).1 k).2=mkA r (d.mk1 x k).1 (d.mk1 x k).2;rw[e,e2,ih]
theorem WU {d:Fe α} {x y:α} (h:d.same x y):d.cost x=d.cost y:=by
 cases d with
 | l s n f g u=>show 64*n (g x)=64*n (g y);rw[(h:g x=g y)]
 | _=>rfl
theorem AfS {d:Fe α} (h:d.law) (x:α) (k:Int):(d.mk1 x k).2<=k+d.cost x:=by
 cases d with
 | l s n f g u=>have:=(h.1 (g x) k).2.1;show(f (g x) k).2<=k+((64*n (g x):Nat):Int);omega
 | _=>exact Int.le_refl _
theorem Me {d:Fe α}:∀ {r:List (Fe α)},AgX d r->∀ (x:α) (k:Int),D9 r (d.mk1 x k).1=D9 r x
 | [],_,_,_=>rfl
 | e::r,h,x,k=>by show e.cost _+D9 r _=e.cost _+D9 r _;rw[WU (h.2.1 x k),Me h.2.2 x k]
theorem XX:∀ {r:List (Fe α)},Laws r->∀ (x:α) (k:Int),(mkA r x k).2<=k+D9 r x
 | [],_,x,k=>by show k<=k+((0:Nat):Int);omega
 | d::r,h,x,k=>by have h1:=AfS h.1 x k;have h2:=XX h.2.2 (d.mk1 x k).1 (d.mk1 x k).2;rw[Me h.2.1] at h2;show(mkA r (d.mk1 x k).1 (d.mk1 x k).2).2<=k+((d.cost x+D9 r x:Nat):Int);omega
theorem bdV {n:α->Nat} {ds:List (Fe α)} (h:Laws ds) (hc:∀ x,D9 ds x<=64*n x):Bd n (mkA ds):=fun x k=>⟨DN h x k,by have:=XX h x k;have:=hc x;omega,M8 h x k⟩
theorem bdL {n:α->Nat} {ds:List (Fe α)} (h:Laws ds) (hc:∀ x,D9 ds x<=64*(n x+1)):Bd (szL n) (Ao (mkA ds)):=fun l k=>
 ⟨Jl (fun x k=>DN h x k) l k,T6 (fun x k=>by have:=XX h x k;have:=hc x;omega) l k,Va (fun x k=>M8 h x k) l k⟩
end
section
variable {P:Program} {E:Env} {m:Nat} {fn:Func} {t:Ty} {s:Sh}
def mkF (s:Sh) (f:s.X->Int->s.X×Int):MS:=⟨s,fun(x:s.X) (k:Int)=>0<=k/\(f x k).2<=4000000000000000000,f⟩
def heF (s:Sh) (f:s.X->Int->s.X×Int):Fct:=⟨[.v s,aI],[rI],fun(x:s.X×Int×Unit)=>0<=x.2.1/\(f x.1 x.2.1).2<=4000000000000000000/\(f x.1 x.2.1).1=x.1,fun(x:s.X×Int×Unit)=>((f x.1 x.2.1).2,())⟩
def obI (b:Bool) (X:Out):Out:=match b with
 | true=>.ob (Value.int .i64 0=Value.int .i64 0) X
 | false=>X
def mkC (t:Ty) (v:Bool) (bk:Int×Int×List (El t)×PUnit->Prop):List (Fe (El t))->Int->List (El t)->Int->Out
 | [],i,l,k=>obI v<|.ob (bk (k,(w1 i,(l,())))) .ok
 | .s g u::r,i,l,k=>.cl FJ (k,()) fun z=>.ob (inB i l.length)<|.ob (i.toNat<l.length)<|.lt (List (El t)) (l.modify i.toNat fun a=>u a z.1) fun l'=>mkC t v bk r i l' (w1 k)
 | .i g u::r,i,l,k=>.ob (inB i l.length)<|.ob (i.toNat<l.length)<|.lt (List (El t)) (l.modify i.toNat fun a=>u a k) fun l'=>mkC t v bk r i l' (w1 k)
 | .b g u::r,i,l,k=>.ob ((3:Int)≠0)<|.ob (inB i l.length)<|.ob (i.toNat<l.length)<|.lt (List (El t)) (l.modify i.toNat fun a=>u a (k.tmod 3==0)) fun l'=>mkC t v bk r i l' (w1 k)
 | .l s n f g u::r,i,l,k=>.ob (inB i l.length)<|.ob (i.toNat<l.length)<|.ob ((mkF s f).pre (g (l.getD i.toNat default)) k)<|.lt (s.X×Int) ((mkF s f).fn (g (l.getD i.toNat default)) k) fun z=>.lt (List (El t)) (l.modify i.toNat fun a=>u a z.1) fun l'=>mkC t v bk r i l' z.2
theorem LB {k:Int} (h0:0<=k) (h1:k<=4000000000000000000):w1 k=k+1:=Ah ⟨by omega,by omega⟩
theorem Af7 {v:Bool} {bk:Int×Int×List (El t)×PUnit->Prop} {Q:Post} {A R:List (El t)} {i:Int} (h0:0<=i) (hA:A.length=i.toNat) :
 ∀ (ds:List (Fe (El t))) (x:El t) (k:Int),Laws ds->0<=k->(mkA ds x k).2<=4000000000000000000->bk ((mkA ds x k).2,(w1 i,(A++(mkA ds x k).1::R,())))->(mkC t v bk ds i (A++x::R) k).holds Q
 | [],x,k,_,_,_,hb=>by cases v<;>first|exact Aa hb fun _=>trivial|exact Aa rfl fun _=>Aa hb fun _=>trivial
 | d::r,x,k,hl,hk,hm,hb=>by
  have hin:inB i (A++x::R).length:=⟨h0,by simp only[Qa4,Qa6];omega⟩;have hlt:i.toNat<(A++x::R).length:=by simp only[Qa4,Qa6];omega
  have hmo:=DN hl.2.2 (d.mk1 x k).1 (d.mk1 x k).2;have hm':(mkA r (d.mk1 x k).1 (d.mk1 x k).2).2<=4000000000000000000:=hm;have h1:=Ha hl.1 x k;have ih:=Af7 (v:=v) (Q:=Q) h0 hA r (d.mk1 x k).1 (d.mk1 x k).2 hl.2.2 (by omega) hm' hb;have hw:w1 k=k+1:=LB hk (by omega);cases d with
  | s g u=>
   refine Ae ⟨hk,by show k<=_;omega⟩ fun _=>Aa hin fun _=>Aa hlt fun _=>Dh ?_
   show(mkC t v bk r i ((A++x::R).modify i.toNat fun a=>u a (JH k)) (w1 k)).holds Q;rw[GP hA,hw];exact ih
  | i g u=>
   refine Aa hin fun _=>Aa hlt fun _=>Dh ?_
   rw[GP hA,hw];exact ih
  | b g u=>
   refine Aa (by decide) fun _=>Aa hin fun _=>Aa hlt fun _=>Dh ?_
   rw[GP hA,hw];exact ih
  | l s n f g u=>
   refine Aa hin fun _=>Aa hlt fun _=>?_
   rw[getD_at hA];refine Aa ⟨hk,by show(f (g x) k).2<=_;exact Int.le_trans hmo hm'⟩ fun _=>Dh (Dh ?_)
   show(mkC t v bk r i ((A++x::R).modify i.toNat fun a=>u a (f (g x) k).1) (f (g x) k).2).holds Q;rw[GP hA];exact ih
def mkX (t:Ty) (f:El t->Int->El t×Int) (v:Bool) (ds:List (Fe (El t))) (l:List (El t)) (k:Int):Out :=
 lpx (AhI t f l k) (k,((0:Int),(l,()))) fun(y1:Int×Int×List (El t)×PUnit) bk1=>
  .br (decide (y1.2.1<(y1.2.2.1.length:Int))) (mkC t v bk1 ds y1.2.1 y1.2.2.1 y1.1) (.leaf (.one false [vi y1.1]) [] [((0:Nat),⟨t,y1.2.2.1⟩)])
theorem Ahs {v:Bool} {ds:List (Fe (El t))} (hl:Laws ds) {l:List (El t)} {k:Int} (hp:0<=k/\(Ao (mkA ds) l k).2<=4000000000000000000) (hlen:l.length<=4000000000000000000):(mkX t (mkA ds) v ds l k).holds ((mkF (.sl t) (Ao (mkA ds))).ctr l k).post:=by
 refine Aw ⟨by simp,by simp,by simp[Ao],by simp[Ao]⟩ fun(y1:Int×Int×List (El t)×PUnit) i1=>Ab (fun h2=>?_) (fun h2=>?_)
 all_goals have i3:0<=y1.2.1/\y1.2.1<=l.length/\y1.1=(Ao (mkA ds) (l.take y1.2.1.toNat) k).2/\y1.2.2.1=(Ao (mkA ds) (l.take y1.2.1.toNat) k).1++l.drop y1.2.1.toNat:=i1
 all_goals have hx:y1.2.2.1.length=l.length:=by rw[i3.2.2.2,Qa4,Ks,Qc1,Qd6];omega
 all_goals simp only[Qa7,Qb0,hx] at h2
 all_goals clear i1
 ·have hlt:y1.2.1.toNat<l.length:=by omega
  have ht:=ID (f:=mkA ds) hlt k;have hle:=(EE (f:=mkA ds) (fun x k=>DN hl x k) l (y1.2.1.toNat+1) k).2;have hl0:=(EE (f:=mkA ds) (fun x k=>DN hl x k) l y1.2.1.toNat k).1;have hA:(Ao (mkA ds) (l.take y1.2.1.toNat) k).1.length=y1.2.1.toNat:=by rw[Ks,Qc1];omega
  rw[ht] at hle;rw[<-i3.2.2.1] at hle hl0 ht;rw[i3.2.2.2,drop_cons hlt];refine Af7 i3.1 hA ds _ _ hl (by omega) (Int.le_trans hle hp.2) ⟨⟨?_,?_,?_,?_⟩,?_⟩
  ·show 0<=w1 y1.2.1;rw[LB i3.1 (by omega)];omega
  ·show w1 y1.2.1<=_;rw[LB i3.1 (by omega)];omega
  ·show(mkA ds _ y1.1).2=(Ao (mkA ds) (l.take (w1 y1.2.1).toNat) k).2;rw[LB i3.1 (by omega),toNat1 i3.1,ht]
  ·show _=(Ao (mkA ds) (l.take (w1 y1.2.1).toNat) k).1++l.drop (w1 y1.2.1).toNat;rw[LB i3.1 (by omega),toNat1 i3.1,ht];simp
  ·show l.length-(w1 y1.2.1).toNat<l.length-y1.2.1.toNat;rw[LB i3.1 (by omega),toNat1 i3.1];omega
 ·refine MS.leafL (t:=t) (fn:=fun l k=>Ao (mkA ds) l k) ?_;have e1:l.take y1.2.1.toNat=l:=Qb3 (by omega);have e2:l.drop y1.2.1.toNat=[]:=Qb6 (by omega);rw[i3.2.2.2,i3.2.2.1,e1,e2,Qd8]
theorem mkS {ds:List (Fe (El t))} (kp:List Nat) (v:Bool) (hl:Laws ds) (hE:EOk P E) (hf:P.funcs[m]? = some fn)
 (h:∀ l k,Fo P E (fun|2=>some (AhI t (mkA ds) l k)|_=>none) kp [0] fn ((mkF (.sl t) (Ao (mkA ds))).arg l k)=mkX t (mkA ds) v ds l k)
 (hc:(fn.body.isSome&&decide (2<=fn.ntmps)&&AaS ds)=true:=by kernel_rfl):(mkF (.sl t) (Ao (mkA ds))).ok P m:=by
 rw[Qa1,Qa1] at hc;refine MS.of (S:=mkF (.sl t) (Ao (mkA ds))) (L:=fun l k=>fun|2=>some (AhI t (mkA ds) l k)|_=>none) hE hf hc.1.1 hc.1.2 fun l k hx=>⟨(h l k)▸Ahs hl hx ?_⟩
 have h1:0<=k/\(Ao (mkA ds) l k).2<=4000000000000000000:=hx;have:=Qc (f:=mkA ds) (Ql hl hc.2) l k;omega
def heC (t:Ty) (f:El t->Int->El t×Int) (l:List (El t)) (bk:Int×Int×PUnit->Prop):List (Fe (El t))->Int->Int->Out
 | [],i,k=>.ob (l=l)<|.ob (bk (k,(w1 i,()))) .ok
 | .s g u::r,i,k=>.ob (inB i l.length)<|.cl FJ (k,()) fun z=>.br (!(g (l.getD i.toNat default)).toList==z.1.toList) (.lf (heF (.sl t) (Ao f)) ((-1:Int),())) (heC t f l bk r i (w1 k))
 | .i g u::r,i,k=>.ob (inB i l.length)<|.br (g (l.getD i.toNat default) != k) (.lf (heF (.sl t) (Ao f)) ((-1:Int),())) (heC t f l bk r i (w1 k))
 | .b g u::r,i,k=>.ob (inB i l.length)<|.ob ((3:Int)≠0)<|.br (!g (l.getD i.toNat default)==(k.tmod 3==0)) (.lf (heF (.sl t) (Ao f)) ((-1:Int),())) (heC t f l bk r i (w1 k))
 | .l s n f' g u::r,i,k=>.ob (inB i l.length)<|.cl (heF s f') (g (l.getD i.toNat default),k,()) fun z=>.br (decide (z.1<0)) (.lf (heF (.sl t) (Ao f)) ((-1:Int),())) (heC t f l bk r i z.1)
theorem AgP {f:El t->Int->El t×Int} {l:List (El t)} {bk:Int×Int×PUnit->Prop} {Q:Post} {i:Int} (hi:inB i l.length) {x:El t} (hx:l.getD i.toNat default=x) :
 ∀ (ds:List (Fe (El t))) (k:Int),Laws ds->0<=k->(mkA ds x k).2<=4000000000000000000->(mkA ds x k).1=x->bk ((mkA ds x k).2,(w1 i,()))->(heC t f l bk ds i k).holds Q
 | [],k,_,_,_,_,hb=>Aa rfl fun _=>Aa hb fun _=>trivial
 | d::r,k,hl,hk,hm,he,hb=>by
  obtain⟨hv,hd1,he2⟩:=SJ hl he;have hmo:=DN hl.2.2 (d.mk1 x k).1 (d.mk1 x k).2;have hm':(mkA r (d.mk1 x k).1 (d.mk1 x k).2).2<=4000000000000000000:=hm;have h1:=Ha hl.1 x k;have hk4:k<=4000000000000000000:=by omega
  have hw:w1 k=k+1:=LB hk hk4;have hb':bk ((mkA r (d.mk1 x k).1 (d.mk1 x k).2).2,(w1 i,())):=hb;rw[hd1] at hm' hb' hmo;have ih:=AgP (f:=f) (Q:=Q) hi hx r (d.mk1 x k).2 hl.2.2 (by omega) hm' he2 hb';cases d with
  | s g u=>
   have hv:g x=JH k:=hv;refine Aa hi fun _=>Ae ⟨hk,hk4⟩ fun _=>Ab (fun hc=>?_) (fun _=>?_)
   ·rw[hx,hv] at hc;exact absurd hc (by show ¬ ((!(JH k).toList==(JH k).toList)=true);simp)
   ·rw[hw];exact ih
  | i g u=>
   have hv:g x=k:=hv;refine Aa hi fun _=>Ab (fun hc=>?_) (fun _=>?_)
   ·rw[hx,hv] at hc;simp at hc
   ·rw[hw];exact ih
  | b g u=>
   have hv:g x=(k.tmod 3==0):=hv;refine Aa hi fun _=>Aa (by decide) fun _=>Ab (fun hc=>?_) (fun _=>?_)
   ·rw[hx,hv] at hc;simp at hc
   ·rw[hw];exact ih
  | l s n f' g u=>
   have hv:(f' (g x) k).1=g x:=hv;refine Aa hi fun _=>?_
   rw[hx];refine Ae ⟨hk,Int.le_trans hmo hm',hv⟩ fun _=>Ab (fun hc=>?_) (fun _=>ih)
   have hc:decide ((f' (g x) k).2<0)=true:=hc;simp only[Qa7] at hc;have h1:k<=(f' (g x) k).2:=h1;omega
def heX (t:Ty) (f:El t->Int->El t×Int) (ds:List (Fe (El t))) (l:List (El t)) (k:Int):Out :=
 lpx (Aht t f l k) (k,((0:Int),())) fun(y1:Int×Int×PUnit) bk1=>
  .br (decide (y1.2.1<(l.length:Int))) (heC t f l bk1 ds y1.2.1 y1.1) (.lf (heF (.sl t) (Ao f)) (y1.1,()))
theorem AhD {ds:List (Fe (El t))} (hl:Laws ds) {l:List (El t)} {k:Int} (hp:0<=k/\(Ao (mkA ds) l k).2<=4000000000000000000/\(Ao (mkA ds) l k).1=l) (hlen:l.length<=4000000000000000000):(heX t (mkA ds) ds l k).holds ((heF (.sl t) (Ao (mkA ds))).ctr (l,k,())).post:=by
 refine Aw ⟨by simp,by simp,by simp[Ao]⟩ fun(y1:Int×Int×PUnit) i1=>Ab (fun h2=>?_) (fun h2=>?_)
 all_goals have i3:0<=y1.2.1/\y1.2.1<=l.length/\y1.1=(Ao (mkA ds) (l.take y1.2.1.toNat) k).2:=i1
 all_goals simp only[Qa7,Qb0] at h2
 all_goals clear i1
 ·have hlt:y1.2.1.toNat<l.length:=by omega
  have ht:=ID (f:=mkA ds) hlt k;have hle:=(EE (f:=mkA ds) (fun x k=>DN hl x k) l (y1.2.1.toNat+1) k).2;have hl0:=(EE (f:=mkA ds) (fun x k=>DN hl x k) l y1.2.1.toNat k).1;have heq:=U4 hp.2.2 hlt;rw[ht] at hle;rw[<-i3.2.2] at hle hl0 ht heq;refine AgP (show inB y1.2.1 l.length from⟨i3.1,h2⟩) rfl ds _ hl (by omega) (Int.le_trans hle hp.2.1) heq ⟨⟨?_,?_,?_⟩,?_⟩
  ·show 0<=w1 y1.2.1;rw[LB i3.1 (by omega)];omega
  ·show w1 y1.2.1<=_;rw[LB i3.1 (by omega)];omega
  ·show(mkA ds _ y1.1).2=(Ao (mkA ds) (l.take (w1 y1.2.1).toNat) k).2;rw[LB i3.1 (by omega),toNat1 i3.1,ht]
  ·show l.length-(w1 y1.2.1).toNat<l.length-y1.2.1.toNat;rw[LB i3.1 (by omega),toNat1 i3.1];omega
 ·have e1:l.take y1.2.1.toNat=l:=Qb3 (by omega);rw[e1] at i3;exact lfY (by show(y1.1,())=((Ao (mkA ds) l k).2,());rw[i3.2.2])
theorem heS {ds:List (Fe (El t))} (kp:List Nat) (hl:Laws ds) (hE:EOk P E) (hf:P.funcs[m]? = some fn)
 (h:∀ l k,Fo P E (fun|2=>some (Aht t (mkA ds) l k)|_=>none) kp [] fn ((heF (.sl t) (Ao (mkA ds))).arg (l,k,()))=heX t (mkA ds) ds l k)
 (hc:(fn.body.isSome&&decide (2<=fn.ntmps)&&AaS ds)=true:=by kernel_rfl):(heF (.sl t) (Ao (mkA ds))).ok P m:=by
 rw[Qa1,Qa1] at hc;refine Fct.of (S:=heF (.sl t) (Ao (mkA ds))) (L:=fun x=>fun|2=>some (Aht t (mkA ds) x.1 x.2.1)|_=>none) (kp:=kp) hE hf hc.1.1 hc.1.2 ?_;rintro⟨(l:List (El t)),(k:Int),_⟩ hx;refine⟨(h l k)▸AhD hl hx ?_⟩;have h1:0<=k/\(Ao (mkA ds) l k).2<=4000000000000000000/\(Ao (mkA ds) l k).1=l:=hx;have:=Qc (f:=mkA ds) (Ql hl hc.2) l k;omega
def mvC (s:Sh):List (Fe s.X)->s.X->Int->Out
 | [],x,k=>.leaf (.one false [vi k]) [] (D4 0 (s.fc x))
 | .l s' n f g u::r,x,k=>.ob ((mkF s' f).pre (g x) k)<|.lt (s'.X×Int) ((mkF s' f).fn (g x) k) fun z=>mvC s r (u x z.1) z.2
 | _::_,_,_=>.bad
def AfQ {α:Type}:List (Fe α)->Bool
 | []=>true
 | .l ..::r=>AfQ r
 | _::_=>false
theorem Agk {Q:Post}:∀ (ds:List (Fe s.X)) (x:s.X) (k:Int),Laws ds->AfQ ds=true->0<=k->(mkA ds x k).2<=4000000000000000000->(Out.leaf (.one false [vi (mkA ds x k).2]) [] (D4 0 (s.fc (mkA ds x k).1))).holds Q->(mvC s ds x k).holds Q
 | [],x,k,_,_,_,_,h=>h
 | .l s' n f g u::r,x,k,hl,hs,hk,hm,h=>by have hmo:=DN hl.2.2 (u x (f (g x) k).1) (f (g x) k).2;have h1:k<=(f (g x) k).2:=Ha hl.1 x k;exact Aa ⟨hk,Int.le_trans hmo hm⟩ fun _=>Dh (Agk r _ _ hl.2.2 hs (by show 0<=(f (g x) k).2;omega) hm h)
theorem mvT {ds:List (Fe s.X)} (kp kl:List Nat) (hl:Laws ds) (hE:EOk P E) (hf:P.funcs[m]? = some fn)
 (h:∀ x k,Fo P E (fun _=>none) kp kl fn ((mkF s (mkA ds)).arg x k)=mvC s ds x k)
 (hc:(fn.body.isSome&&decide (2<=fn.ntmps)&&AfQ ds)=true:=by kernel_rfl):(mkF s (mkA ds)).ok P m:=by
 rw[Qa1,Qa1] at hc;exact MS.of (S:=mkF s (mkA ds)) (L:=fun _ _ _=>none) (kp:=kp) (kl:=kl) hE hf hc.1.1 hc.1.2 fun x k hx=>⟨(h x k)▸Agk ds x k hl hc.2 hx.1 hx.2 (MS.leaf ⟨Er _,trivial,rfl⟩)⟩
def hvC (s:Sh) (f:s.X->Int->s.X×Int):List (Fe s.X)->s.X->Int->Out
 | [],x,k=>.lf (heF s f) (k,())
 | .l s' n f' g u::r,x,k=>.cl (heF s' f') (g x,k,()) fun z=>.br (decide (z.1<0)) (.lf (heF s f) ((-1:Int),())) (hvC s f r x z.1)
 | _::_,_,_=>.bad
theorem Agu {Q:Post} {f:s.X->Int->s.X×Int} {x:s.X}:∀ (ds:List (Fe s.X)) (k:Int),Laws ds->AfQ ds=true->0<=k->(mkA ds x k).2<=4000000000000000000->(mkA ds x k).1=x->(Out.lf (heF s f) ((mkA ds x k).2,())).holds Q->(hvC s f ds x k).holds Q
 | [],k,_,_,_,_,_,h=>h
 | .l s' n f' g u::r,k,hl,hs,hk,hm,he,h=>by
  obtain⟨hv,hd1,he2⟩:=SJ hl he;have hv:(f' (g x) k).1=g x:=hv;have hd1:u x (f' (g x) k).1=x:=hd1;have hm:(mkA r (u x (f' (g x) k).1) (f' (g x) k).2).2<=4000000000000000000:=hm;have h:(Out.lf (heF s f) ((mkA r (u x (f' (g x) k).1) (f' (g x) k).2).2,())).holds Q:=h;rw[hd1] at hm h;have hmo:=DN hl.2.2 x (f' (g x) k).2;have h1:k<=(f' (g x) k).2:=Ha hl.1 x k;refine Ae ⟨hk,Int.le_trans hmo hm,hv⟩ fun _=>Ab (fun hc=>?_) (fun _=>Agu r _ hl.2.2 hs (by show 0<=(f' (g x) k).2;omega) hm he2 h)
  have hc:decide ((f' (g x) k).2<0)=true:=hc;simp only[Qa7] at hc;omega
theorem hvT {ds:List (Fe s.X)} (kp:List Nat) (hl:Laws ds) (hE:EOk P E) (hf:P.funcs[m]? = some fn)
 (h:∀ x k,Fo P E (fun _=>none) kp [] fn ((heF s (mkA ds)).arg (x,k,()))=hvC s (mkA ds) ds x k)
 (hc:(fn.body.isSome&&decide (2<=fn.ntmps)&&AfQ ds)=true:=by kernel_rfl):(heF s (mkA ds)).ok P m:=by
 rw[Qa1,Qa1] at hc;exact Fct.of (S:=heF s (mkA ds)) (L:=fun _ _=>none) (kp:=kp) hE hf hc.1.1 hc.1.2 fun x hx=>⟨(h x.1 x.2.1)▸Agu ds x.2.1 hl hc.2 hx.1 hx.2.1 hx.2.2 (lfY rfl)⟩
end
end Go.D
namespace Go.D
set_option linter.unusedSimpArgs false
set_option maxRecDepth 100000
set_option maxHeartbeats 2000000
def szAddr (x:SAddr):Nat:=x.host.size+x.path.size
def A0 (x:SAttr):Nat:=x.name.size+x.value.size
def Al (x:SToken):Nat:=x.name.size+szL A0 x.bn+x.text.size
def BN (x:STokenizer):Nat:=x.rest.size
def szNode (x:SNode):Nat:=x.name.size+x.text.size+szL A0 x.bn
def szBuilder (x:SBuilder):Nat:=szL szNode x.bh+x.bj.length
def KT (x:SRule):Nat:=x.name.size
def Dl (x:SSheet):Nat:=szL KT x.rules
def CT (x:SLine):Nat:=x.text.size
def szPolicy (x:SPolicy):Nat:=szL Ac x.bo+szL Ac x.styles+szL Ac x.images+x.nonce.size
def Af (x:SResponse):Nat:=x.body.size+x.bi.size
def szRequest (x:SRequest):Nat:=szAddr x.to+x.from_.size+x.digest.size
def Eb (x:SFile):Nat:=x.path.size+Af x.bc
def Bj (x:SServer):Nat:=x.host.size+szL Eb x.files
def AX (x:SEntry):Nat:=x.top.size+szAddr x.to+Af x.bc
def szCache (x:SCache):Nat:=szL AX x.bf
def Ea (x:SSent):Nat:=x.top.size+szAddr x.to
def szNet (x:SNet):Nat:=szL Bj x.servers+szCache x.cache+szL Ea x.log
def AI (x:SSlot):Nat:=szAddr x.to+x.digest.size+x.body.size
def Ar (x:SModule):Nat:=szAddr x.to+x.body.size
def szPage (x:SPage):Nat:=szAddr x.addr+szPolicy x.bi+BN x.tok+szL Al x.bm+szBuilder x.ba+szL AI x.bd+szL Ar x.bg+szL szAddr x.bf+szL szAddr x.ran+szL Ac x.log
def BX (x:SGuess):Nat:=szAddr x.to+Af x.bc
def B0 (x:SConn):Nat:=szAddr x.to+Af x.bc
def DA (x:SLoader):Nat:=szNet x.net+szPage x.page+szL Ac x.parts+szL B0 x.conns+szL BX x.guesses
theorem AcS (x:SAddr):(⟨x.host,x.path⟩:SAddr)=x:=rfl
theorem Aaq (x:SToken):(⟨x.kind,x.name,x.bn,x.text⟩:SToken)=x:=rfl
theorem Afs (x:SNode):(⟨x.name,x.text,x.parent,x.bn⟩:SNode)=x:=rfl
theorem Vf (x:SBuilder):(⟨x.bh,x.bj⟩:SBuilder)=x:=rfl
theorem Aaa (x:SSheet):(⟨x.rules⟩:SSheet)=x:=rfl
theorem Wj (x:SPolicy):(⟨x.set_,x.bo,x.styles,x.images,x.nonce⟩:SPolicy)=x:=rfl
theorem Rs (x:SResponse):(⟨x.status,x.kind,x.body,x.age,x.shares,x.bi⟩:SResponse)=x:=rfl
theorem Vc (x:SRequest):(⟨x.kind,x.to,x.from_,x.digest⟩:SRequest)=x:=rfl
theorem Afh (x:SFile):(⟨x.path,x.bc⟩:SFile)=x:=rfl
theorem Yn (x:SServer):(⟨x.host,x.files⟩:SServer)=x:=rfl
theorem AaF (x:SEntry):(⟨x.top,x.to,x.bc,x.until_⟩:SEntry)=x:=rfl
theorem Aa1 (x:SCache):(⟨x.bf⟩:SCache)=x:=rfl
theorem AeZ (x:SSent):(⟨x.top,x.to,x.guess⟩:SSent)=x:=rfl
theorem Agn (x:SNet):(⟨x.servers,x.cache,x.log,x.now⟩:SNet)=x:=rfl
theorem Aeb (x:SSlot):(⟨x.mode,x.to,x.digest,x.node,x.done,x.code,x.body⟩:SSlot)=x:=rfl
theorem VR (x:SModule):(⟨x.to,x.done,x.code,x.body⟩:SModule)=x:=rfl
theorem Ad4 (x:SPage):(⟨x.addr,x.bi,x.tok,x.bm,x.ended,x.ba,x.bd,x.bg,x.bf,x.block,x.inline,x.bl,x.bp,x.ran,x.log,x.loaded⟩:SPage)=x:=rfl
theorem X1 (x:SResult):(⟨x.ba,x.log,x.verdicts,x.sheet,x.loaded⟩:SResult)=x:=rfl
theorem AaG (x:SGuess):(⟨x.to,x.bc,x.used⟩:SGuess)=x:=rfl
theorem Ac1 (x:SConn):(⟨x.to,x.left,x.guess,x.bc⟩:SConn)=x:=rfl
theorem Yi (x:SLoader):(⟨x.net,x.page,x.parts,x.conns,x.guesses⟩:SLoader)=x:=rfl
theorem Aba (x:SVisit):(⟨x.addr,x.page,x.kept⟩:SVisit)=x:=rfl
theorem AgK (x:STab):(⟨x.visits,x.at_⟩:STab)=x:=rfl
theorem Agj (x y:ByteArray):(x==y)=decide (x=y):=by
 rw[Bool.eq_iff_iff,Qa7];constructor
 ·intro h;have h':(x.data==y.data)=true:=h;cases x;cases y;simpa using h'
 ·rintro rfl;show(x.data==x.data)=true;simp
theorem Dk (x y:SAddr):(x.host==y.host&&(x.path==y.path&&true))=decide (x=y):=by
 rw[Bool.eq_iff_iff];cases x;cases y;simp[Agj]
def Rn:List (Fe ByteArray):=[.s (fun x=>x) fun _ v=>v]
def EY:ByteArray->Int->ByteArray×Int:=mkA Rn
theorem KO:Laws Rn:=by repeat' first|exact fun _ _=>rfl|exact fun _=>rfl|constructor
theorem GH:Bd (szL Ac) (Ao EY):=bdL KO (fun x=>by simp only[D9,Fe.cost,Rn];omega)
def AhV:List (Fe Int):=[.i (fun x=>x) fun _ v=>v]
def ZB:Int->Int->Int×Int:=mkA AhV
theorem Xb:Laws AhV:=by repeat' first|exact fun _ _=>rfl|exact fun _=>rfl|constructor
theorem VL:Bd List.length (Ao ZB):=fun l k=>by
 have h:=bdL (n:=fun _=>0) Xb (fun x=>by simp only[D9,Fe.cost,AhV];omega) l k;have e:∀ l:List Int,szL (fun _=>0) l=l.length:=fun l=>by
  induction l with
  | nil=>rfl
  | cons a l ih=>simp only[szL,Qc8,List.sum_cons,Qa6] at *;omega
 rw[e] at h;exact h
def Ac4:List (Fe SAddr):=[.s (fun x=>x.host) fun x v=>{x with host:=v},.s (fun x=>x.path) fun x v=>{x with path:=v}]
def O0:SAddr->Int->SAddr×Int:=mkA Ac4
theorem Qf:Laws Ac4:=by repeat' first|exact fun _ _=>rfl|exact fun _=>rfl|constructor
theorem Vh:Bd (szL szAddr) (Ao O0):=bdL Qf (fun x=>by simp only[D9,Fe.cost,Ac4,szAddr];omega)
def AdR:List (Fe SAttr):=[.s (fun x=>x.name) fun x v=>{x with name:=v},.s (fun x=>x.value) fun x v=>{x with value:=v}]
def Qa:SAttr->Int->SAttr×Int:=mkA AdR
theorem RQ:Laws AdR:=by repeat' first|exact fun _ _=>rfl|exact fun _=>rfl|constructor
theorem MT:Bd (szL A0) (Ao Qa):=bdL RQ (fun x=>by simp only[D9,Fe.cost,AdR,A0];omega)
def VB:List (Fe SToken):=[.i (fun x=>x.kind) fun x v=>{x with kind:=v},.s (fun x=>x.name) fun x v=>{x with name:=v},.l (.sl .attr) (szL A0) (Ao Qa) (fun x=>x.bn) fun x v=>{x with bn:=v},.s (fun x=>x.text) fun x v=>{x with text:=v}]
def Oc:SToken->Int->SToken×Int:=mkA VB
theorem Nw:Laws VB:=by repeat' first|exact fun _ _=>rfl|exact fun _=>rfl|exact MT|constructor
theorem Rc:Bd (szL Al) (Ao Oc):=bdL Nw (fun x=>by simp only[D9,Fe.cost,VB,Al];omega)
def Adl:List (Fe SNode):=[.s (fun x=>x.name) fun x v=>{x with name:=v},.s (fun x=>x.text) fun x v=>{x with text:=v},.i (fun x=>x.parent) fun x v=>{x with parent:=v},.l (.sl .attr) (szL A0) (Ao Qa) (fun x=>x.bn) fun x v=>{x with bn:=v}]
def Ss:SNode->Int->SNode×Int:=mkA Adl
theorem QJ:Laws Adl:=by repeat' first|exact fun _ _=>rfl|exact fun _=>rfl|exact MT|constructor
theorem TG:Bd (szL szNode) (Ao Ss):=bdL QJ (fun x=>by simp only[D9,Fe.cost,Adl,szNode];omega)
def NV:List (Fe SBuilder):=[.l (.sl .node) (szL szNode) (Ao Ss) (fun x=>x.bh) fun x v=>{x with bh:=v},.l (.sl .int) List.length (Ao ZB) (fun x=>x.bj) fun x v=>{x with bj:=v}]
def H8:SBuilder->Int->SBuilder×Int:=mkA NV
theorem Jf:Laws NV:=by repeat' first|exact fun _ _=>rfl|exact fun _=>rfl|exact VL|exact TG|constructor
theorem OQ:Bd szBuilder H8:=bdV Jf (fun x=>by simp only[D9,Fe.cost,NV,szBuilder];omega)
def Q7:List (Fe SPolicy):=[.l (.sl .str) (szL Ac) (Ao EY) (fun x=>x.bo) fun x v=>{x with bo:=v},.l (.sl .str) (szL Ac) (Ao EY) (fun x=>x.styles) fun x v=>{x with styles:=v},.l (.sl .str) (szL Ac) (Ao EY) (fun x=>x.images) fun x v=>{x with images:=v}]
def JU:SPolicy->Int->SPolicy×Int:=mkA Q7
theorem LL:Laws Q7:=by repeat' first|exact fun _ _=>rfl|exact fun _=>rfl|exact GH|constructor
theorem RN:Bd szPolicy JU:=bdV LL (fun x=>by simp only[D9,Fe.cost,Q7,szPolicy];omega)
def Aeu:List (Fe SFile):=[.s (fun x=>x.path) fun x v=>{x with path:=v},.i (fun x=>x.bc.status) fun x v=>{x with bc:={x.bc with status:=v}},.i (fun x=>x.bc.kind) fun x v=>{x with bc:={x.bc with kind:=v}},.s (fun x=>x.bc.body) fun x v=>{x with bc:={x.bc with body:=v}},.i (fun x=>x.bc.age) fun x v=>{x with bc:={x.bc with age:=v}},.b (fun x=>x.bc.shares) fun x v=>{x with bc:={x.bc with shares:=v}},.s (fun x=>x.bc.bi) fun x v=>{x with bc:={x.bc with bi:=v}}]
def Tl:SFile->Int->SFile×Int:=mkA Aeu
theorem Rr:Laws Aeu:=by repeat' first|exact fun _ _=>rfl|exact fun _=>rfl|constructor
theorem Uk:Bd (szL Eb) (Ao Tl):=bdL Rr (fun x=>by simp only[D9,Fe.cost,Aeu,Eb,Af];omega)
def RX:List (Fe SServer):=[.s (fun x=>x.host) fun x v=>{x with host:=v},.l (.sl .file) (szL Eb) (Ao Tl) (fun x=>x.files) fun x v=>{x with files:=v}]
def JX:SServer->Int->SServer×Int:=mkA RX
theorem Kh:Laws RX:=by repeat' first|exact fun _ _=>rfl|exact fun _=>rfl|exact Uk|constructor
theorem OU:Bd (szL Bj) (Ao JX):=bdL Kh (fun x=>by simp only[D9,Fe.cost,RX,Bj];omega)
def VC:List (Fe SEntry):=[.s (fun x=>x.top) fun x v=>{x with top:=v},.s (fun x=>x.to.host) fun x v=>{x with to:={x.to with host:=v}},.s (fun x=>x.to.path) fun x v=>{x with to:={x.to with path:=v}},.i (fun x=>x.bc.status) fun x v=>{x with bc:={x.bc with status:=v}},.i (fun x=>x.bc.kind) fun x v=>{x with bc:={x.bc with kind:=v}},.s (fun x=>x.bc.body) fun x v=>{x with bc:={x.bc with body:=v}},.i (fun x=>x.bc.age) fun x v=>{x with bc:={x.bc with age:=v}},.b (fun x=>x.bc.shares) fun x v=>{x with bc:={x.bc with shares:=v}},.s (fun x=>x.bc.bi) fun x v=>{x with bc:={x.bc with bi:=v}},.i (fun x=>x.until_) fun x v=>{x with until_:=v}]
def NB:SEntry->Int->SEntry×Int:=mkA VC
theorem Nr:Laws VC:=by repeat' first|exact fun _ _=>rfl|exact fun _=>rfl|constructor
theorem RC:Bd (szL AX) (Ao NB):=bdL Nr (fun x=>by simp only[D9,Fe.cost,VC,szAddr,AX,Af];omega)
def Yu:List (Fe SCache):=[.l (.sl .entry) (szL AX) (Ao NB) (fun x=>x.bf) fun x v=>{x with bf:=v}]
def NF:SCache->Int->SCache×Int:=mkA Yu
theorem Nj:Laws Yu:=by repeat' first|exact fun _ _=>rfl|exact fun _=>rfl|exact RC|constructor
theorem TZ:Bd szCache NF:=bdV Nj (fun x=>by simp only[D9,Fe.cost,Yu,szCache];omega)
def AeY:List (Fe SSent):=[.s (fun x=>x.top) fun x v=>{x with top:=v},.s (fun x=>x.to.host) fun x v=>{x with to:={x.to with host:=v}},.s (fun x=>x.to.path) fun x v=>{x with to:={x.to with path:=v}},.b (fun x=>x.guess) fun x v=>{x with guess:=v}]
def S0:SSent->Int->SSent×Int:=mkA AeY
theorem QX:Laws AeY:=by repeat' first|exact fun _ _=>rfl|exact fun _=>rfl|constructor
theorem U1:Bd (szL Ea) (Ao S0):=bdL QX (fun x=>by simp only[D9,Fe.cost,AeY,szAddr,Ea];omega)
def Ahe:List (Fe SNet):=[.l (.sl .server) (szL Bj) (Ao JX) (fun x=>x.servers) fun x v=>{x with servers:=v},.l (.el .cache) szCache NF (fun x=>x.cache) fun x v=>{x with cache:=v},.l (.sl .sent) (szL Ea) (Ao S0) (fun x=>x.log) fun x v=>{x with log:=v}]
def Aay:SNet->Int->SNet×Int:=mkA Ahe
theorem YC:Laws Ahe:=by repeat' first|exact fun _ _=>rfl|exact fun _=>rfl|exact U1|exact OU|exact TZ|constructor
theorem Aao:Bd szNet Aay:=bdV YC (fun x=>by simp only[D9,Fe.cost,Ahe,szNet];omega)
def Afb:List (Fe SSlot):=[.i (fun x=>x.mode) fun x v=>{x with mode:=v},.s (fun x=>x.to.host) fun x v=>{x with to:={x.to with host:=v}},.s (fun x=>x.to.path) fun x v=>{x with to:={x.to with path:=v}},.s (fun x=>x.digest) fun x v=>{x with digest:=v},.i (fun x=>x.node) fun x v=>{x with node:=v},.b (fun x=>x.done) fun x v=>{x with done:=v},.i (fun x=>x.code) fun x v=>{x with code:=v},.s (fun x=>x.body) fun x v=>{x with body:=v}]
def Sz:SSlot->Int->SSlot×Int:=mkA Afb
theorem RD:Laws Afb:=by repeat' first|exact fun _ _=>rfl|exact fun _=>rfl|constructor
theorem UE:Bd (szL AI) (Ao Sz):=bdL RD (fun x=>by simp only[D9,Fe.cost,Afb,szAddr,AI];omega)
def R6:List (Fe SModule):=[.s (fun x=>x.to.host) fun x v=>{x with to:={x.to with host:=v}},.s (fun x=>x.to.path) fun x v=>{x with to:={x.to with path:=v}},.b (fun x=>x.done) fun x v=>{x with done:=v},.i (fun x=>x.code) fun x v=>{x with code:=v},.s (fun x=>x.body) fun x v=>{x with body:=v}]
def JY:SModule->Int->SModule×Int:=mkA R6
theorem J4:Laws R6:=by repeat' first|exact fun _ _=>rfl|exact fun _=>rfl|constructor
theorem PB:Bd (szL Ar) (Ao JY):=bdL J4 (fun x=>by simp only[D9,Fe.cost,R6,szAddr,Ar];omega)
def Aej:List (Fe SPage):=[.l (.el .bi) szPolicy JU (fun x=>x.bi) fun x v=>{x with bi:=v},.l (.sl .token) (szL Al) (Ao Oc) (fun x=>x.bm) fun x v=>{x with bm:=v},.l (.el .ba) szBuilder H8 (fun x=>x.ba) fun x v=>{x with ba:=v},.l (.sl .slot) (szL AI) (Ao Sz) (fun x=>x.bd) fun x v=>{x with bd:=v},.l (.sl .module) (szL Ar) (Ao JY) (fun x=>x.bg) fun x v=>{x with bg:=v},.l (.sl .addr) (szL szAddr) (Ao O0) (fun x=>x.bf) fun x v=>{x with bf:=v},.l (.sl .addr) (szL szAddr) (Ao O0) (fun x=>x.ran) fun x v=>{x with ran:=v},.l (.sl .str) (szL Ac) (Ao EY) (fun x=>x.log) fun x v=>{x with log:=v}]
def Tb:SPage->Int->SPage×Int:=mkA Aej
theorem RF:Laws Aej:=by repeat' first|exact fun _ _=>rfl|exact fun _=>rfl|exact Vh|exact PB|exact UE|exact GH|exact Rc|exact OQ|exact RN|constructor
theorem Yq:Bd szPage Tb:=bdV RF (fun x=>by simp only[D9,Fe.cost,Aej,szPage];omega)
def Xp:List (Fe SGuess):=[.s (fun x=>x.to.host) fun x v=>{x with to:={x.to with host:=v}},.s (fun x=>x.to.path) fun x v=>{x with to:={x.to with path:=v}},.i (fun x=>x.bc.status) fun x v=>{x with bc:={x.bc with status:=v}},.i (fun x=>x.bc.kind) fun x v=>{x with bc:={x.bc with kind:=v}},.s (fun x=>x.bc.body) fun x v=>{x with bc:={x.bc with body:=v}},.i (fun x=>x.bc.age) fun x v=>{x with bc:={x.bc with age:=v}},.b (fun x=>x.bc.shares) fun x v=>{x with bc:={x.bc with shares:=v}},.s (fun x=>x.bc.bi) fun x v=>{x with bc:={x.bc with bi:=v}},.b (fun x=>x.used) fun x v=>{x with used:=v}]
def M5:SGuess->Int->SGuess×Int:=mkA Xp
theorem M7:Laws Xp:=by repeat' first|exact fun _ _=>rfl|exact fun _=>rfl|constructor
theorem Q9:Bd (szL BX) (Ao M5):=bdL M7 (fun x=>by simp only[D9,Fe.cost,Xp,szAddr,BX,Af];omega)
def Adq:List (Fe SConn):=[.s (fun x=>x.to.host) fun x v=>{x with to:={x.to with host:=v}},.s (fun x=>x.to.path) fun x v=>{x with to:={x.to with path:=v}},.i (fun x=>x.left) fun x v=>{x with left:=v},.b (fun x=>x.guess) fun x v=>{x with guess:=v},.i (fun x=>x.bc.status) fun x v=>{x with bc:={x.bc with status:=v}},.i (fun x=>x.bc.kind) fun x v=>{x with bc:={x.bc with kind:=v}},.s (fun x=>x.bc.body) fun x v=>{x with bc:={x.bc with body:=v}},.i (fun x=>x.bc.age) fun x v=>{x with bc:={x.bc with age:=v}},.b (fun x=>x.bc.shares) fun x v=>{x with bc:={x.bc with shares:=v}},.s (fun x=>x.bc.bi) fun x v=>{x with bc:={x.bc with bi:=v}}]
def SL:SConn->Int->SConn×Int:=mkA Adq
theorem RI:Laws Adq:=by repeat' first|exact fun _ _=>rfl|exact fun _=>rfl|constructor
theorem Un:Bd (szL B0) (Ao SL):=bdL RI (fun x=>by simp only[D9,Fe.cost,Adq,szAddr,B0,Af];omega)
def Qm:List (Fe SLoader):=[.l (.el .net) szNet Aay (fun x=>x.net) fun x v=>{x with net:=v},.l (.el .page) szPage Tb (fun x=>x.page) fun x v=>{x with page:=v},.l (.sl .str) (szL Ac) (Ao EY) (fun x=>x.parts) fun x v=>{x with parts:=v},.l (.sl .conn) (szL B0) (Ao SL) (fun x=>x.conns) fun x v=>{x with conns:=v},.l (.sl .guess) (szL BX) (Ao M5) (fun x=>x.guesses) fun x v=>{x with guesses:=v}]
def B9:SLoader->Int->SLoader×Int:=mkA Qm
theorem Lo:Laws Qm:=by repeat' first|exact fun _ _=>rfl|exact fun _=>rfl|exact Un|exact Q9|exact GH|exact Aao|exact Yq|constructor
theorem J9:Bd DA B9:=bdV Lo (fun x=>by simp only[D9,Fe.cost,Qm,DA];omega)
theorem Rh (x:SLoader) (k:Int):{ net:={ servers:=(B9 x k).1.net.servers,cache:=(B9 x k).1.net.cache,log:=(B9 x k).1.net.log,now:=x.net.now:SNet },page:={ addr:=x.page.addr,bi:={ set_:=x.page.bi.set_,bo:=(B9 x k).1.page.bi.bo,styles:=(B9 x k).1.page.bi.styles,images:=(B9 x k).1.page.bi.images,nonce:=x.page.bi.nonce:SPolicy },tok:=x.page.tok,bm:=(B9 x k).1.page.bm,ended:=x.page.ended,ba:=(B9 x k).1.page.ba,bd:=(B9 x k).1.page.bd,bg:=(B9 x k).1.page.bg,bf:=(B9 x k).1.page.bf,block:=x.page.block,inline:=x.page.inline,bl:=x.page.bl,bp:=x.page.bp,ran:=(B9 x k).1.page.ran,log:=(B9 x k).1.page.log,loaded:=x.page.loaded:SPage },parts:=(B9 x k).1.parts,conns:=(B9 x k).1.conns,guesses:=(B9 x k).1.guesses:SLoader }=(B9 x k).1:=by kernel_rfl
def AdO (x:SAddr):List SzI:=[.p x.host.size,.p x.path.size]
theorem AeE (x:SAddr) (h:Sh.good (.el .addr) x):Fl (AdO x):=by simp only[AdO,Sh.good,Sh.fc,enc,Qd1,Qe3,false_implies,implies_true,DC,Fl,SzI.ok,maxLen] at *;grind
def Adz (x:SAddr):List ToI:=[]
def Ahg (x:SAddr) (z:Unit):SAddr:=⟨x.host,x.path⟩
theorem Afd (x:SAddr) (h:szAddr x<=1048576):Fp (Adz x):=by simp only[szAddr,Adz,Fp,Qe1] at *<;>omega
def YM (x y:SAddr):List EqI:=[.s x.host y.host,.s x.path y.path]
theorem Ae6 (x y:SAddr):x=y↔C0 (YM x y):=by cases x;cases y;simp[YM,C0,EqI.tru]
theorem Ad7 (x y:SAddr) (h:szAddr x<=1125899906842624):Ft (YM x y):=by simp only[szAddr,YM,Ft,EqI.ok,Qe1,true_and] at *<;>omega
def Adv (x:SAttr):List SzI:=[.p x.name.size,.p x.value.size]
theorem Adb (x:SAttr) (h:Sh.good (.el .attr) x):Fl (Adv x):=by simp only[Adv,Sh.good,Sh.fc,enc,Qd1,Qe3,false_implies,implies_true,DC,Fl,SzI.ok,maxLen] at *;grind
def AfE (x:SAttr):List ToI:=[]
def Ahc (x:SAttr) (z:Unit):SAttr:=⟨x.name,x.value⟩
theorem Aee (x:SAttr) (h:A0 x<=1048576):Fp (AfE x):=by simp only[A0,AfE,Fp,Qe1] at *<;>omega
def Wv (x y:SAttr):List EqI:=[.s x.name y.name,.s x.value y.value]
theorem AfI (x y:SAttr):x=y↔C0 (Wv x y):=by cases x;cases y;simp[Wv,C0,EqI.tru]
theorem AeO (x y:SAttr) (h:A0 x<=1125899906842624):Ft (Wv x y):=by simp only[A0,Wv,Ft,EqI.ok,Qe1,true_and] at *<;>omega
def WH (x:SToken):List SzI:=[.p x.name.size,.c (.sl .attr) (szL A0) x.bn,.p x.text.size]
theorem AbU (x:SToken) (h:Sh.good (.el .token) x):Fl (WH x):=by simp only[WH,Sh.good,Sh.fc,enc,Qd1,Qe3,false_implies,implies_true,DC,Fl,SzI.ok,maxLen] at *;grind
def Xz (x:SToken):List ToI:=[⟨(.sl .attr),(szL A0),x.bn⟩]
def Af4 (x:SToken) (z:(List SAttr)×Unit):SToken:=⟨x.kind,x.name,z.1,x.text⟩
theorem Aac (x:SToken) (h:Al x<=1048576):Fp (Xz x):=by simp only[Al,Xz,Fp,Qe1] at *<;>omega
def OK (x y:SToken):List EqI:=[.i x.kind y.kind,.s x.name y.name,.c (.sl .attr) inferInstance (szL A0) x.bn y.bn,.s x.text y.text]
theorem Aa0 (x y:SToken):x=y↔C0 (OK x y):=by cases x;cases y;simp[OK,C0,EqI.tru]
theorem Ab1 (x y:SToken) (h:Al x<=1125899906842624):Ft (OK x y):=by simp only[Al,OK,Ft,EqI.ok,Qe1,true_and] at *<;>omega
def I6 (x:STokenizer):List SzI:=[.p x.rest.size]
theorem OJ (x:STokenizer) (h:Sh.good (.el .tokenizer) x):Fl (I6 x):=by simp only[I6,Sh.good,Sh.fc,enc,Qd1,Qe3,false_implies,implies_true,DC,Fl,SzI.ok,maxLen] at *;grind
def IU (x:STokenizer):List ToI:=[]
def Ua (x:STokenizer) (z:Unit):STokenizer:=⟨x.rest⟩
theorem OC (x:STokenizer) (h:BN x<=1048576):Fp (IU x):=by simp only[BN,IU,Fp,Qe1] at *<;>omega
def Fw (x y:STokenizer):List EqI:=[.s x.rest y.rest]
theorem OI (x y:STokenizer):x=y↔C0 (Fw x y):=by cases x;cases y;simp[Fw,C0,EqI.tru]
theorem Pg (x y:STokenizer) (h:BN x<=1125899906842624):Ft (Fw x y):=by simp only[BN,Fw,Ft,EqI.ok,Qe1,true_and] at *<;>omega
def AeL (x:SNode):List SzI:=[.p x.name.size,.p x.text.size,.c (.sl .attr) (szL A0) x.bn]
theorem AeW (x:SNode) (h:Sh.good (.el .node) x):Fl (AeL x):=by simp only[AeL,Sh.good,Sh.fc,enc,Qd1,Qe3,false_implies,implies_true,DC,Fl,SzI.ok,maxLen] at *;grind
def Aed (x:SNode):List ToI:=[⟨(.sl .attr),(szL A0),x.bn⟩]
def Ahi (x:SNode) (z:(List SAttr)×Unit):SNode:=⟨x.name,x.text,x.parent,z.1⟩
theorem Ac6 (x:SNode) (h:szNode x<=1048576):Fp (Aed x):=by simp only[szNode,Aed,Fp,Qe1] at *<;>omega
def X4 (x y:SNode):List EqI:=[.s x.name y.name,.s x.text y.text,.i x.parent y.parent,.c (.sl .attr) inferInstance (szL A0) x.bn y.bn]
theorem AdT (x y:SNode):x=y↔C0 (X4 x y):=by cases x;cases y;simp[X4,C0,EqI.tru]
theorem Aeq (x y:SNode) (h:szNode x<=1125899906842624):Ft (X4 x y):=by simp only[szNode,X4,Ft,EqI.ok,Qe1,true_and] at *<;>omega
def Ot (x:SBuilder):List SzI:=[.c (.sl .node) (szL szNode) x.bh,.c (.sl .int) List.length x.bj]
theorem Uo (x:SBuilder) (h:Sh.good (.el .ba) x):Fl (Ot x):=by simp only[Ot,Sh.good,Sh.fc,enc,Qd1,Qe3,false_implies,implies_true,DC,Fl,SzI.ok,maxLen] at *;grind
def Nf (x:SBuilder):List ToI:=[⟨(.sl .node),(szL szNode),x.bh⟩,⟨(.sl .int),List.length,x.bj⟩]
def Abm (x:SBuilder) (z:(List SNode)×(List Int)×Unit):SBuilder:=⟨z.1,z.2.1⟩
theorem Uv (x:SBuilder) (h:szBuilder x<=1048576):Fp (Nf x):=by simp only[szBuilder,Nf,Fp,Qe1] at *<;>omega
def HY (x y:SBuilder):List EqI:=[.c (.sl .node) inferInstance (szL szNode) x.bh y.bh,.c (.sl .int) inferInstance List.length x.bj y.bj]
theorem UL (x y:SBuilder):x=y↔C0 (HY x y):=by cases x;cases y;simp[HY,C0,EqI.tru]
theorem U6 (x y:SBuilder) (h:szBuilder x<=1125899906842624):Ft (HY x y):=by simp only[szBuilder,HY,Ft,EqI.ok,Qe1,true_and] at *<;>omega
def RY (x:SPolicy):List SzI:=[.c (.sl .str) (szL Ac) x.bo,.c (.sl .str) (szL Ac) x.styles,.c (.sl .str) (szL Ac) x.images,.p x.nonce.size]
theorem Yh (x:SPolicy) (h:Sh.good (.el .bi) x):Fl (RY x):=by simp only[RY,Sh.good,Sh.fc,enc,Qd1,Qe3,false_implies,implies_true,DC,Fl,SzI.ok,maxLen] at *;grind
def Rl (x:SPolicy):List ToI:=[⟨(.sl .str),(szL Ac),x.bo⟩,⟨(.sl .str),(szL Ac),x.styles⟩,⟨(.sl .str),(szL Ac),x.images⟩]
def Afr (x:SPolicy) (z:(List ByteArray)×(List ByteArray)×(List ByteArray)×Unit):SPolicy:=⟨x.set_,z.1,z.2.1,z.2.2.1,x.nonce⟩
theorem YI (x:SPolicy) (h:szPolicy x<=1048576):Fp (Rl x):=by simp only[szPolicy,Rl,Fp,Qe1] at *<;>omega
def Kj (x y:SPolicy):List EqI:=[.b x.set_ y.set_,.c (.sl .str) inferInstance (szL Ac) x.bo y.bo,.c (.sl .str) inferInstance (szL Ac) x.styles y.styles,.c (.sl .str) inferInstance (szL Ac) x.images y.images,.s x.nonce y.nonce]
theorem Xl (x y:SPolicy):x=y↔C0 (Kj x y):=by cases x;cases y;simp[Kj,C0,EqI.tru]
theorem WS (x y:SPolicy) (h:szPolicy x<=1125899906842624):Ft (Kj x y):=by simp only[szPolicy,Kj,Ft,EqI.ok,Qe1,true_and] at *<;>omega
def LK (x:SResponse):List SzI:=[.p x.body.size,.p x.bi.size]
theorem Qt (x:SResponse) (h:Sh.good (.el .bc) x):Fl (LK x):=by simp only[LK,Sh.good,Sh.fc,enc,Qd1,Qe3,false_implies,implies_true,DC,Fl,SzI.ok,maxLen] at *;grind
def KZ (x:SResponse):List ToI:=[]
def VD (x:SResponse) (z:Unit):SResponse:=⟨x.status,x.kind,x.body,x.age,x.shares,x.bi⟩
theorem Qq (x:SResponse) (h:Af x<=1048576):Fp (KZ x):=by simp only[Af,KZ,Fp,Qe1] at *<;>omega
def GO (x y:SResponse):List EqI:=[.i x.status y.status,.i x.kind y.kind,.s x.body y.body,.i x.age y.age,.b x.shares y.shares,.s x.bi y.bi]
theorem RW (x y:SResponse):x=y↔C0 (GO x y):=by cases x;cases y;simp[GO,C0,EqI.tru]
theorem Ro (x y:SResponse) (h:Af x<=1125899906842624):Ft (GO x y):=by simp only[Af,GO,Ft,EqI.ok,Qe1,true_and] at *<;>omega
def AeA (x:SFile):List SzI:=[.p x.path.size,.c (.el .bc) Af x.bc]
theorem Afx (x:SFile) (h:Sh.good (.el .file) x):Fl (AeA x):=by simp only[AeA,Sh.good,Sh.fc,enc,Qd1,Qe3,false_implies,implies_true,DC,Fl,SzI.ok,maxLen] at *;grind
def AdX (x:SFile):List ToI:=[⟨(.el .bc),Af,x.bc⟩]
def Ahm (x:SFile) (z:SResponse×Unit):SFile:=⟨x.path,z.1⟩
theorem Adr (x:SFile) (h:Eb x<=1048576):Fp (AdX x):=by simp only[Eb,AdX,Fp,Qe1] at *<;>omega
def Ye (x y:SFile):List EqI:=[.s x.path y.path,.c (.el .bc) inferInstance Af x.bc y.bc]
theorem Ac8 (x y:SFile):x=y↔C0 (Ye x y):=by cases x;cases y;simp[Ye,C0,EqI.tru]
theorem Ad0 (x y:SFile) (h:Eb x<=1125899906842624):Ft (Ye x y):=by simp only[Eb,Ye,Ft,EqI.ok,Qe1,true_and] at *<;>omega
def Rk (x:SServer):List SzI:=[.p x.host.size,.c (.sl .file) (szL Eb) x.files]
theorem Za (x:SServer) (h:Sh.good (.el .server) x):Fl (Rk x):=by simp only[Rk,Sh.good,Sh.fc,enc,Qd1,Qe3,false_implies,implies_true,DC,Fl,SzI.ok,maxLen] at *;grind
def Rg (x:SServer):List ToI:=[⟨(.sl .file),(szL Eb),x.files⟩]
def Aen (x:SServer) (z:(List SFile)×Unit):SServer:=⟨x.host,z.1⟩
theorem VU (x:SServer) (h:Bj x<=1048576):Fp (Rg x):=by simp only[Bj,Rg,Fp,Qe1] at *<;>omega
def KN (x y:SServer):List EqI:=[.s x.host y.host,.c (.sl .file) inferInstance (szL Eb) x.files y.files]
theorem X6 (x y:SServer):x=y↔C0 (KN x y):=by cases x;cases y;simp[KN,C0,EqI.tru]
theorem Wr (x y:SServer) (h:Bj x<=1125899906842624):Ft (KN x y):=by simp only[Bj,KN,Ft,EqI.ok,Qe1,true_and] at *<;>omega
def Vy (x:SEntry):List SzI:=[.p x.top.size,.c (.el .addr) szAddr x.to,.c (.el .bc) Af x.bc]
theorem Aa3 (x:SEntry) (h:Sh.good (.el .entry) x):Fl (Vy x):=by simp only[Vy,Sh.good,Sh.fc,enc,Qd1,Qe3,false_implies,implies_true,DC,Fl,SzI.ok,maxLen] at *;grind
def XU (x:SEntry):List ToI:=[⟨(.el .addr),szAddr,x.to⟩,⟨(.el .bc),Af,x.bc⟩]
def AgD (x:SEntry) (z:SAddr×SResponse×Unit):SEntry:=⟨x.top,z.1,z.2.1,x.until_⟩
theorem Abb (x:SEntry) (h:AX x<=1048576):Fp (XU x):=by simp only[AX,XU,Fp,Qe1] at *<;>omega
def PT (x y:SEntry):List EqI:=[.s x.top y.top,.c (.el .addr) inferInstance szAddr x.to y.to,.c (.el .bc) inferInstance Af x.bc y.bc,.i x.until_ y.until_]
theorem Z4 (x y:SEntry):x=y↔C0 (PT x y):=by cases x;cases y;simp[PT,C0,EqI.tru]
theorem ZV (x y:SEntry) (h:AX x<=1125899906842624):Ft (PT x y):=by simp only[AX,PT,Ft,EqI.ok,Qe1,true_and] at *<;>omega
def Zc (x:SCache):List SzI:=[.c (.sl .entry) (szL AX) x.bf]
theorem ZS (x:SCache) (h:Sh.good (.el .cache) x):Fl (Zc x):=by simp only[Zc,Sh.good,Sh.fc,enc,Qd1,Qe3,false_implies,implies_true,DC,Fl,SzI.ok,maxLen] at *;grind
def Vu (x:SCache):List ToI:=[⟨(.sl .entry),(szL AX),x.bf⟩]
def AfT (x:SCache) (z:(List SEntry)×Unit):SCache:=⟨z.1⟩
theorem AaE (x:SCache) (h:szCache x<=1048576):Fp (Vu x):=by simp only[szCache,Vu,Fp,Qe1] at *<;>omega
def Pf (x y:SCache):List EqI:=[.c (.sl .entry) inferInstance (szL AX) x.bf y.bf]
theorem Zv (x y:SCache):x=y↔C0 (Pf x y):=by cases x;cases y;simp[Pf,C0,EqI.tru]
theorem AaQ (x y:SCache) (h:szCache x<=1125899906842624):Ft (Pf x y):=by simp only[szCache,Pf,Ft,EqI.ok,Qe1,true_and] at *<;>omega
def Ade (x:SSent):List SzI:=[.p x.top.size,.c (.el .addr) szAddr x.to]
theorem AdK (x:SSent) (h:Sh.good (.el .sent) x):Fl (Ade x):=by simp only[Ade,Sh.good,Sh.fc,enc,Qd1,Qe3,false_implies,implies_true,DC,Fl,SzI.ok,maxLen] at *;grind
def Afo (x:SSent):List ToI:=[⟨(.el .addr),szAddr,x.to⟩]
def Aha (x:SSent) (z:SAddr×Unit):SSent:=⟨x.top,z.1,x.guess⟩
theorem Aew (x:SSent) (h:Ea x<=1048576):Fp (Afo x):=by simp only[Ea,Afo,Fp,Qe1] at *<;>omega
def X9 (x y:SSent):List EqI:=[.s x.top y.top,.c (.el .addr) inferInstance szAddr x.to y.to,.b x.guess y.guess]
theorem Ael (x y:SSent):x=y↔C0 (X9 x y):=by cases x;cases y;simp[X9,C0,EqI.tru]
theorem Ae4 (x y:SSent) (h:Ea x<=1125899906842624):Ft (X9 x y):=by simp only[Ea,X9,Ft,EqI.ok,Qe1,true_and] at *<;>omega
def AhF (x:SNet):List SzI:=[.c (.sl .server) (szL Bj) x.servers,.c (.el .cache) szCache x.cache,.c (.sl .sent) (szL Ea) x.log]
theorem AgB (x:SNet) (h:Sh.good (.el .net) x):Fl (AhF x):=by simp only[AhF,Sh.good,Sh.fc,enc,Qd1,Qe3,false_implies,implies_true,DC,Fl,SzI.ok,maxLen] at *;grind
def AhB (x:SNet):List ToI:=[⟨(.sl .server),(szL Bj),x.servers⟩,⟨(.el .cache),szCache,x.cache⟩,⟨(.sl .sent),(szL Ea),x.log⟩]
def AmI (x:SNet) (z:(List SServer)×SCache×(List SSent)×Unit):SNet:=⟨z.1,z.2.1,z.2.2.1,x.now⟩
theorem Agt (x:SNet) (h:szNet x<=1048576):Fp (AhB x):=by simp only[szNet,AhB,Fp,Qe1] at *<;>omega
def Af2 (x y:SNet):List EqI:=[.c (.sl .server) inferInstance (szL Bj) x.servers y.servers,.c (.el .cache) inferInstance szCache x.cache y.cache,.c (.sl .sent) inferInstance (szL Ea) x.log y.log,.i x.now y.now]
theorem AgE (x y:SNet):x=y↔C0 (Af2 x y):=by cases x;cases y;simp[Af2,C0,EqI.tru]
theorem AfY (x y:SNet) (h:szNet x<=1125899906842624):Ft (Af2 x y):=by simp only[szNet,Af2,Ft,EqI.ok,Qe1,true_and] at *<;>omega
def AeC (x:SSlot):List SzI:=[.c (.el .addr) szAddr x.to,.p x.digest.size,.p x.body.size]
theorem Aem (x:SSlot) (h:Sh.good (.el .slot) x):Fl (AeC x):=by simp only[AeC,Sh.good,Sh.fc,enc,Qd1,Qe3,false_implies,implies_true,DC,Fl,SzI.ok,maxLen] at *;grind
def AcV (x:SSlot):List ToI:=[⟨(.el .addr),szAddr,x.to⟩]
def Ahu (x:SSlot) (z:SAddr×Unit):SSlot:=⟨x.mode,z.1,x.digest,x.node,x.done,x.code,x.body⟩
theorem Afz (x:SSlot) (h:AI x<=1048576):Fp (AcV x):=by simp only[AI,AcV,Fp,Qe1] at *<;>omega
def Xm (x y:SSlot):List EqI:=[.i x.mode y.mode,.c (.el .addr) inferInstance szAddr x.to y.to,.s x.digest y.digest,.i x.node y.node,.b x.done y.done,.i x.code y.code,.s x.body y.body]
theorem Ae5 (x y:SSlot):x=y↔C0 (Xm x y):=by cases x;cases y;simp[Xm,C0,EqI.tru]
theorem AdG (x y:SSlot) (h:AI x<=1125899906842624):Ft (Xm x y):=by simp only[AI,Xm,Ft,EqI.ok,Qe1,true_and] at *<;>omega
def Ra (x:SModule):List SzI:=[.c (.el .addr) szAddr x.to,.p x.body.size]
theorem XD (x:SModule) (h:Sh.good (.el .module) x):Fl (Ra x):=by simp only[Ra,Sh.good,Sh.fc,enc,Qd1,Qe3,false_implies,implies_true,DC,Fl,SzI.ok,maxLen] at *;grind
def Q0 (x:SModule):List ToI:=[⟨(.el .addr),szAddr,x.to⟩]
def AeP (x:SModule) (z:SAddr×Unit):SModule:=⟨z.1,x.done,x.code,x.body⟩
theorem Wc (x:SModule) (h:Ar x<=1048576):Fp (Q0 x):=by simp only[Ar,Q0,Fp,Qe1] at *<;>omega
def Kv (x y:SModule):List EqI:=[.c (.el .addr) inferInstance szAddr x.to y.to,.b x.done y.done,.i x.code y.code,.s x.body y.body]
theorem Wn (x y:SModule):x=y↔C0 (Kv x y):=by cases x;cases y;simp[Kv,C0,EqI.tru]
theorem Wh (x y:SModule) (h:Ar x<=1125899906842624):Ft (Kv x y):=by simp only[Ar,Kv,Ft,EqI.ok,Qe1,true_and] at *<;>omega
def Adx (x:SPage):List SzI:=[.c (.el .addr) szAddr x.addr,.c (.el .bi) szPolicy x.bi,.c (.el .tokenizer) BN x.tok,.c (.sl .token) (szL Al) x.bm,.c (.el .ba) szBuilder x.ba,.c (.sl .slot) (szL AI) x.bd,.c (.sl .module) (szL Ar) x.bg,.c (.sl .addr) (szL szAddr) x.bf,.c (.sl .addr) (szL szAddr) x.ran,.c (.sl .str) (szL Ac) x.log]
theorem Afu (x:SPage) (h:Sh.good (.el .page) x):Fl (Adx x):=by simp only[Adx,Sh.good,Sh.fc,enc,Qd1,Qe3,false_implies,implies_true,DC,Fl,SzI.ok,maxLen] at *;grind
def Adw (x:SPage):List ToI:=[⟨(.el .addr),szAddr,x.addr⟩,⟨(.el .bi),szPolicy,x.bi⟩,⟨(.el .tokenizer),BN,x.tok⟩,⟨(.sl .token),(szL Al),x.bm⟩,⟨(.el .ba),szBuilder,x.ba⟩,⟨(.sl .slot),(szL AI),x.bd⟩,⟨(.sl .module),(szL Ar),x.bg⟩,⟨(.sl .addr),(szL szAddr),x.bf⟩,⟨(.sl .addr),(szL szAddr),x.ran⟩,⟨(.sl .str),(szL Ac),x.log⟩]
def AhM (x:SPage) (z:SAddr×SPolicy×STokenizer×(List SToken)×SBuilder×(List SSlot)×(List SModule)×(List SAddr)×(List SAddr)×(List ByteArray)×Unit):SPage:=⟨z.1,z.2.1,z.2.2.1,z.2.2.2.1,x.ended,z.2.2.2.2.1,z.2.2.2.2.2.1,z.2.2.2.2.2.2.1,z.2.2.2.2.2.2.2.1,x.block,x.inline,x.bl,x.bp,z.2.2.2.2.2.2.2.2.1,z.2.2.2.2.2.2.2.2.2.1,x.loaded⟩
theorem Ae0 (x:SPage) (h:szPage x<=1048576):Fp (Adw x):=by simp only[szPage,Adw,Fp,Qe1] at *<;>omega
def Xw (x y:SPage):List EqI:=[.c (.el .addr) inferInstance szAddr x.addr y.addr,.c (.el .bi) inferInstance szPolicy x.bi y.bi,.c (.el .tokenizer) inferInstance BN x.tok y.tok,.c (.sl .token) inferInstance (szL Al) x.bm y.bm,.b x.ended y.ended,.c (.el .ba) inferInstance szBuilder x.ba y.ba,.c (.sl .slot) inferInstance (szL AI) x.bd y.bd,.c (.sl .module) inferInstance (szL Ar) x.bg y.bg,.c (.sl .addr) inferInstance (szL szAddr) x.bf y.bf,.i x.block y.block,.i x.inline y.inline,.i x.bl y.bl,.i x.bp y.bp,.c (.sl .addr) inferInstance (szL szAddr) x.ran y.ran,.c (.sl .str) inferInstance (szL Ac) x.log y.log,.b x.loaded y.loaded]
theorem Adc (x y:SPage):x=y↔C0 (Xw x y):=by cases x;cases y;simp[Xw,C0,EqI.tru]
theorem AeB (x y:SPage) (h:szPage x<=1125899906842624):Ft (Xw x y):=by simp only[szPage,Xw,Ft,EqI.ok,Qe1,true_and] at *<;>omega
def WO (x:SGuess):List SzI:=[.c (.el .addr) szAddr x.to,.c (.el .bc) Af x.bc]
theorem Abf (x:SGuess) (h:Sh.good (.el .guess) x):Fl (WO x):=by simp only[WO,Sh.good,Sh.fc,enc,Qd1,Qe3,false_implies,implies_true,DC,Fl,SzI.ok,maxLen] at *;grind
def WM (x:SGuess):List ToI:=[⟨(.el .addr),szAddr,x.to⟩,⟨(.el .bc),Af,x.bc⟩]
def Agq (x:SGuess) (z:SAddr×SResponse×Unit):SGuess:=⟨z.1,z.2.1,x.used⟩
theorem ZQ (x:SGuess) (h:BX x<=1048576):Fp (WM x):=by simp only[BX,WM,Fp,Qe1] at *<;>omega
def OD (x y:SGuess):List EqI:=[.c (.el .addr) inferInstance szAddr x.to y.to,.c (.el .bc) inferInstance Af x.bc y.bc,.b x.used y.used]
theorem Abc (x y:SGuess):x=y↔C0 (OD x y):=by cases x;cases y;simp[OD,C0,EqI.tru]
theorem AbP (x y:SGuess) (h:BX x<=1125899906842624):Ft (OD x y):=by simp only[BX,OD,Ft,EqI.ok,Qe1,true_and] at *<;>omega
def AcT (x:SConn):List SzI:=[.c (.el .addr) szAddr x.to,.c (.el .bc) Af x.bc]
theorem Afy (x:SConn) (h:Sh.good (.el .conn) x):Fl (AcT x):=by simp only[AcT,Sh.good,Sh.fc,enc,Qd1,Qe3,false_implies,implies_true,DC,Fl,SzI.ok,maxLen] at *;grind
def AcZ (x:SConn):List ToI:=[⟨(.el .addr),szAddr,x.to⟩,⟨(.el .bc),Af,x.bc⟩]
def Ahq (x:SConn) (z:SAddr×SResponse×Unit):SConn:=⟨z.1,x.left,x.guess,z.2.1⟩
theorem AdF (x:SConn) (h:B0 x<=1048576):Fp (AcZ x):=by simp only[B0,AcZ,Fp,Qe1] at *<;>omega
def Wq (x y:SConn):List EqI:=[.c (.el .addr) inferInstance szAddr x.to y.to,.i x.left y.left,.b x.guess y.guess,.c (.el .bc) inferInstance Af x.bc y.bc]
theorem AfM (x y:SConn):x=y↔C0 (Wq x y):=by cases x;cases y;simp[Wq,C0,EqI.tru]
theorem Ae9 (x y:SConn) (h:B0 x<=1125899906842624):Ft (Wq x y):=by simp only[B0,Wq,Ft,EqI.ok,Qe1,true_and] at *<;>omega
def Q2 (x:SLoader):List SzI:=[.c (.el .net) szNet x.net,.c (.el .page) szPage x.page,.c (.sl .str) (szL Ac) x.parts,.c (.sl .conn) (szL B0) x.conns,.c (.sl .guess) (szL BX) x.guesses]
theorem X8 (x:SLoader) (h:Sh.good (.el .loader) x):Fl (Q2 x):=by simp only[Q2,Sh.good,Sh.fc,enc,Qd1,Qe3,false_implies,implies_true,DC,Fl,SzI.ok,maxLen] at *;grind
def QE (x:SLoader):List ToI:=[⟨(.el .net),szNet,x.net⟩,⟨(.el .page),szPage,x.page⟩,⟨(.sl .str),(szL Ac),x.parts⟩,⟨(.sl .conn),(szL B0),x.conns⟩,⟨(.sl .guess),(szL BX),x.guesses⟩]
def Aex (x:SLoader) (z:SNet×SPage×(List ByteArray)×(List SConn)×(List SGuess)×Unit):SLoader:=⟨z.1,z.2.1,z.2.2.1,z.2.2.2.1,z.2.2.2.2.1⟩
theorem Wb (x:SLoader) (h:DA x<=1048576):Fp (QE x):=by simp only[DA,QE,Fp,Qe1] at *<;>omega
def J6 (x y:SLoader):List EqI:=[.c (.el .net) inferInstance szNet x.net y.net,.c (.el .page) inferInstance szPage x.page y.page,.c (.sl .str) inferInstance (szL Ac) x.parts y.parts,.c (.sl .conn) inferInstance (szL B0) x.conns y.conns,.c (.sl .guess) inferInstance (szL BX) x.guesses y.guesses]
theorem WB (x y:SLoader):x=y↔C0 (J6 x y):=by cases x;cases y;simp[J6,C0,EqI.tru]
theorem Xo (x y:SLoader) (h:DA x<=1125899906842624):Ft (J6 x y):=by simp only[DA,J6,Ft,EqI.ok,Qe1,true_and] at *<;>omega
def FP:Fct:=szF (.sl .str) (szL Ac)
def IQ:Fct:=toF (.sl .str) (szL Ac)
def FI:Fct:=eqF (.sl .str) (szL Ac)
def Qd:MS:=mkF (.sl .str) (Ao EY)
def PE:Fct:=heF (.sl .str) (Ao EY)
def Nb:Fct:=szF (.sl .int) List.length
def RH:Fct:=toF (.sl .int) List.length
def K9:Fct:=eqF (.sl .int) List.length
def YV:MS:=mkF (.sl .int) (Ao ZB)
def Xg:Fct:=heF (.sl .int) (Ao ZB)
def Aby:Fct:=szF (.sl .addr) (szL szAddr)
def Aa6:Fct:=toF (.sl .addr) (szL szAddr)
def AaI:Fct:=eqF (.sl .addr) (szL szAddr)
def UW:MS:=mkF (.sl .addr) (Ao O0)
def TM:Fct:=heF (.sl .addr) (Ao O0)
def Afq:Fct:=szF (.el .addr) szAddr
def Adm:Fct:=toF (.el .addr) szAddr
def AfJ:Fct:=eqF (.el .addr) szAddr
def Aal:Fct:=szF (.sl .attr) (szL A0)
def ZM:Fct:=toF (.sl .attr) (szL A0)
def AbL:Fct:=eqF (.sl .attr) (szL A0)
def Ux:MS:=mkF (.sl .attr) (Ao Qa)
def UP:Fct:=heF (.sl .attr) (Ao Qa)
def AcP:Fct:=szF (.el .attr) A0
def Adj:Fct:=toF (.el .attr) A0
def Adg:Fct:=eqF (.el .attr) A0
def V1:Fct:=szF (.sl .token) (szL Al)
def VE:Fct:=toF (.sl .token) (szL Al)
def XS:Fct:=eqF (.sl .token) (szL Al)
def Qi:MS:=mkF (.sl .token) (Ao Oc)
def QD:Fct:=heF (.sl .token) (Ao Oc)
def Ab2:Fct:=szF (.el .token) Al
def Aar:Fct:=toF (.el .token) Al
def Z7:Fct:=eqF (.el .token) Al
def PY:Fct:=szF (.el .tokenizer) BN
def OY:Fct:=toF (.el .tokenizer) BN
def OX:Fct:=eqF (.el .tokenizer) BN
def Abk:Fct:=szF (.sl .node) (szL szNode)
def AaB:Fct:=toF (.sl .node) (szL szNode)
def Zn:Fct:=eqF (.sl .node) (szL szNode)
def Up:MS:=mkF (.sl .node) (Ao Ss)
def Vo:Fct:=heF (.sl .node) (Ao Ss)
def AfC:Fct:=szF (.el .node) szNode
def Afm:Fct:=toF (.el .node) szNode
def AeG:Fct:=eqF (.el .node) szNode
def UX:Fct:=szF (.el .ba) szBuilder
def Tx:Fct:=toF (.el .ba) szBuilder
def UV:Fct:=eqF (.el .ba) szBuilder
def Pn:MS:=mkF (.el .ba) H8
def O2:Fct:=heF (.el .ba) H8
def Yg:Fct:=szF (.el .bi) szPolicy
def X7:Fct:=toF (.el .bi) szPolicy
def WF:Fct:=eqF (.el .bi) szPolicy
def QW:MS:=mkF (.el .bi) JU
def QG:Fct:=heF (.el .bi) JU
def Rq:Fct:=szF (.el .bc) Af
def Qo:Fct:=toF (.el .bc) Af
def RT:Fct:=eqF (.el .bc) Af
def Aag:Fct:=szF (.sl .file) (szL Eb)
def ZD:Fct:=toF (.sl .file) (szL Eb)
def ZW:Fct:=eqF (.sl .file) (szL Eb)
def Vd:MS:=mkF (.sl .file) (Ao Tl)
def UR:Fct:=heF (.sl .file) (Ao Tl)
def Afj:Fct:=szF (.el .file) Eb
def AdN:Fct:=toF (.el .file) Eb
def Ac2:Fct:=eqF (.el .file) Eb
def TQ:Fct:=szF (.sl .server) (szL Bj)
def U5:Fct:=toF (.sl .server) (szL Bj)
def TB:Fct:=eqF (.sl .server) (szL Bj)
def PM:MS:=mkF (.sl .server) (Ao JX)
def P6:Fct:=heF (.sl .server) (Ao JX)
def WV:Fct:=szF (.el .server) Bj
def XT:Fct:=toF (.el .server) Bj
def XC:Fct:=eqF (.el .server) Bj
def WD:Fct:=szF (.sl .entry) (szL AX)
def VI:Fct:=toF (.sl .entry) (szL AX)
def Y1:Fct:=eqF (.sl .entry) (szL AX)
def Rx:MS:=mkF (.sl .entry) (Ao NB)
def Ru:Fct:=heF (.sl .entry) (Ao NB)
def AbJ:Fct:=szF (.el .entry) AX
def AbT:Fct:=toF (.el .entry) AX
def AaO:Fct:=eqF (.el .entry) AX
def Z8:Fct:=szF (.el .cache) szCache
def Ab0:Fct:=toF (.el .cache) szCache
def ZP:Fct:=eqF (.el .cache) szCache
def Ur:MS:=mkF (.el .cache) NF
def TI:Fct:=heF (.el .cache) NF
def Zl:Fct:=szF (.sl .sent) (szL Ea)
def Aap:Fct:=toF (.sl .sent) (szL Ea)
def Aa2:Fct:=eqF (.sl .sent) (szL Ea)
def Tw:MS:=mkF (.sl .sent) (Ao S0)
def Uj:Fct:=heF (.sl .sent) (Ao S0)
def Afg:Fct:=szF (.el .sent) Ea
def Ac0:Fct:=toF (.el .sent) Ea
def Ae2:Fct:=eqF (.el .sent) Ea
def AgU:Fct:=szF (.el .net) szNet
def Ags:Fct:=toF (.el .net) szNet
def AgQ:Fct:=eqF (.el .net) szNet
def Z5:MS:=mkF (.el .net) Aay
def Abe:Fct:=heF (.el .net) Aay
def ZK:Fct:=szF (.sl .slot) (szL AI)
def AaZ:Fct:=toF (.sl .slot) (szL AI)
def Abq:Fct:=eqF (.sl .slot) (szL AI)
def TU:MS:=mkF (.sl .slot) (Ao Sz)
def U9:Fct:=heF (.sl .slot) (Ao Sz)
def AdJ:Fct:=szF (.el .slot) AI
def Ad3:Fct:=toF (.el .slot) AI
def AfK:Fct:=eqF (.el .slot) AI
def UY:Fct:=szF (.sl .module) (szL Ar)
def UI:Fct:=toF (.sl .module) (szL Ar)
def T9:Fct:=eqF (.sl .module) (szL Ar)
def PH:MS:=mkF (.sl .module) (Ao JY)
def PN:Fct:=heF (.sl .module) (Ao JY)
def Zb:Fct:=szF (.el .module) Ar
def Wm:Fct:=toF (.el .module) Ar
def Y0:Fct:=eqF (.el .module) Ar
def Adp:Fct:=szF (.el .page) szPage
def AeU:Fct:=toF (.el .page) szPage
def Ad8:Fct:=eqF (.el .page) szPage
def W5:MS:=mkF (.el .page) Tb
def XV:Fct:=heF (.el .page) Tb
def YS:Fct:=szF (.sl .guess) (szL BX)
def YK:Fct:=toF (.sl .guess) (szL BX)
def Xe:Fct:=eqF (.sl .guess) (szL BX)
def Ri:MS:=mkF (.sl .guess) (Ao M5)
def Qh:Fct:=heF (.sl .guess) (Ao M5)
def AbQ:Fct:=szF (.el .guess) BX
def Zq:Fct:=toF (.el .guess) BX
def Aaz:Fct:=eqF (.el .guess) BX
def AbZ:Fct:=szF (.sl .conn) (szL B0)
def Z6:Fct:=toF (.sl .conn) (szL B0)
def Z2:Fct:=eqF (.sl .conn) (szL B0)
def Vi:MS:=mkF (.sl .conn) (Ao SL)
def Tz:Fct:=heF (.sl .conn) (Ao SL)
def Ad6:Fct:=szF (.el .conn) B0
def AfF:Fct:=toF (.el .conn) B0
def Afi:Fct:=eqF (.el .conn) B0
def KH:Fct:=szF (.el .loader) DA
def FQ:Fct:=toF (.el .loader) DA
def FM:Fct:=eqF (.el .loader) DA
def Eh:MS:=mkF (.el .loader) B9
def Ga:Fct:=heF (.el .loader) B9
end Go.D
namespace Go.D
theorem AiO:(∀ x:SToken,(⟨x.kind,x.name,x.bn,x.text⟩:SToken)=x)/\(∀ x:SNode,(⟨x.name,x.text,x.parent,x.bn⟩:SNode)=x)/\(∀ x:SBuilder,(⟨x.bh,x.bj⟩:SBuilder)=x)/\(∀ x:SPolicy,(⟨x.set_,x.bo,x.styles,x.images,x.nonce⟩:SPolicy)=x)/\(∀ x:SPage,(⟨x.addr,x.bi,x.tok,x.bm,x.ended,x.ba,x.bd,x.bg,x.bf,x.block,x.inline,x.bl,x.bp,x.ran,x.log,x.loaded⟩:SPage)=x)/\(∀ x:SVisit,(⟨x.addr,x.page,x.kept⟩:SVisit)=x)/\(∀ x:STab,(⟨x.visits,x.at_⟩:STab)=x)/\(∀ x:SServer,(⟨x.host,x.files⟩:SServer)=x)/\(∀ x:SCache,(⟨x.bf⟩:SCache)=x)/\(∀ x:SNet,(⟨x.servers,x.cache,x.log,x.now⟩:SNet)=x)/\(∀ x:SLoader,(⟨x.net,x.page,x.parts,x.conns,x.guesses⟩:SLoader)=x)/\(∀ x:SSheet,(⟨x.rules⟩:SSheet)=x)/\(∀ x:SResult,(⟨x.ba,x.log,x.verdicts,x.sheet,x.loaded⟩:SResult)=x)/\(∀ x:SSlot,(⟨x.mode,x.to,x.digest,x.node,x.done,x.code,x.body⟩:SSlot)=x)/\(∀ x:SModule,(⟨x.to,x.done,x.code,x.body⟩:SModule)=x)/\(∀ x:SAddr,(⟨x.host,x.path⟩:SAddr)=x)/\(∀ x:SRequest,(⟨x.kind,x.to,x.from_,x.digest⟩:SRequest)=x)/\(∀ x:SResponse,(⟨x.status,x.kind,x.body,x.age,x.shares,x.bi⟩:SResponse)=x)/\(∀ x:SConn,(⟨x.to,x.left,x.guess,x.bc⟩:SConn)=x)/\(∀ x:SGuess,(⟨x.to,x.bc,x.used⟩:SGuess)=x)/\(∀ x:SEntry,(⟨x.top,x.to,x.bc,x.until_⟩:SEntry)=x)/\(∀ x:SSent,(⟨x.top,x.to,x.guess⟩:SSent)=x)/\(∀ x:SFile,(⟨x.path,x.bc⟩:SFile)=x) :=
 ⟨Aaq,Afs,Vf,Wj,Ad4,Aba,AgK,Yn,Aa1,Agn,Yi,Aaa,X1,Aeb,VR,AcS,Vc,Rs,Ac1,AaG,AaF,AeZ,Afh⟩
theorem std:(type_of% @AiO)/\(type_of% @AfP)/\(type_of% @AgZ)/\∀ {α:Type} (a b:α),(a≠b) = ¬a=b:=⟨AiO,AfP,AgZ,fun _ _=>rfl⟩
def KP (a b:List Nat):List Nat:=a++(b++b.map (· + 1000000))
def lv:List (Nat×LInv)->TX
 | [],_=>none
 | (m,x)::r,n=>bif n==m then some x else lv r n
theorem Fct.p {S:Fct} {P:Program} {E:Env} {f:Nat} {fn:Func} (kp:List Nat) (L:As S.as->TX) (hE:EOk P E) (hf:P.funcs[f]? = some fn)
 (hh:∀ x,S.pre x->HoldsE (Fo P E (L x) kp [] fn (S.arg x)) (S.ctr x).post) (hc:(fn.body.isSome&&decide (S.as.length<=fn.ntmps))=true:=by kernel_rfl):S.ok P f:=by
 rw[Qa1] at hc;exact Fct.of (L:=L) hE hf hc.1 hc.2 hh
end Go.D
namespace Go.D
set_option linter.unusedSectionVars false
section
variable {α:Type} [DecidableEq α] [Inhabited α]
def XH:List α->List α
 | []=>[]
 | [a]=>[a]
 | a::b::l=>if a=b then XH (b::l) else a::XH (b::l)
structure CompInv (s d:List α) (k0 k k2:Int):Prop where
 c2:1<=k2
 c0:1<=k0
 le:k0+k2<=s.length
 lo:k0<=k
 hi:k<k0+k2
 len:d.length=s.length
 dr:d.drop k.toNat=s.drop k.toNat
 tk:d.take k.toNat=XH (s.take (k0+k2).toNat)
theorem JF {s d:List α} {k i:Nat} (h:d.drop k=s.drop k) (hi:k<=i):d.getD i default=s.getD i default:=by
 have h1:(d.drop k)[i-k]? = (s.drop k)[i-k]?:=by rw[h]
 simp only[Qe5,show k+(i-k)=i by omega] at h1;simp[Qb1,h1]
theorem CompInv.at_ {s d:List α} {k0 k k2:Int} (h:CompInv s d k0 k k2) (hlt:k0+k2<s.length) :
 d.getD (k0.toNat+k2.toNat) default=s.getD (k0+k2).toNat default/\d.getD (k0.toNat+(k2-1).toNat) default=s.getD ((k0+k2).toNat-1) default:=by
 obtain⟨a,b,c,e,f,g,i,j⟩:=h;refine⟨?_,?_⟩
 ·rw[JF i (by omega)];congr 1;omega
 ·rw[JF i (by omega)];congr 1;omega
end
theorem HJ {α:Type} (xs ys:List α) (e:Nat):(I9 xs e ys).length=min e xs.length+ys.length+(xs.length-(e+ys.length)):=by simp[I9];omega
theorem IM {α:Type} (xs:List α) (a n:Nat):(cut xs a n).length=min n (xs.length-a):=by simp[cut]
theorem Aa7 {α:Type} (xs ys:List α) (k:Nat) (h:k<=xs.length):cut (I9 xs k ys) 0 k=xs.take k:=by
 simp[cut,I9,Qc1,Nat.min_eq_left h]
theorem Yb {α:Type} {l:List α} {i j m:Nat} (hj:j<=l.length) (hi:i<=j) (hm:m=l.length-j):(I9 l i (cut l j m)).take (i+m)=l.take i++l.drop j:=by
 have h1:cut l j m=l.drop j:=by simp[cut,hm,Qb3]
 rw[h1];have h2:(l.take i++l.drop j).length=i+m:=by simp;omega
 simp only[I9];rw[<-h2,List.take_left'];rfl
end Go.D
namespace Go.D
open Go.Lib Go.Sort
def ZN (a b:ByteArray):Int:=compareBytes a.data.toList b.data.toList
theorem AaT:∀ l m:List UInt8,compareBytes l m = -1\/compareBytes l m=0\/compareBytes l m=1:=by
 intro l
 induction l with
 | nil=>intro m;cases m<;>simp[compareBytes]
 | cons a l ih=>
  intro m;cases m with
  | nil=>simp[compareBytes]
  | cons b m=>
   simp only[compareBytes];split
   ·simp
   ·split
    ·simp
    ·exact ih m
theorem Agf:∀ {l m:List UInt8},compareBytes l m=0↔l=m:=by
 intro l
 induction l with
 | nil=>intro m;cases m<;>simp[compareBytes]
 | cons a l ih=>
  intro m;cases m with
  | nil=>simp[compareBytes]
  | cons b m=>
   simp only[compareBytes,List.cons.injEq];split
   ·rename_i h;simp;intro e;subst e;exact absurd h (UInt8.lt_irrefl _)
   ·split
    ·rename_i h;simp;intro e;subst e;exact absurd h (UInt8.lt_irrefl _)
    ·rename_i h1 h2;have e:a=b:=UInt8.le_antisymm (UInt8.not_lt.1 h2) (UInt8.not_lt.1 h1);simp[e,ih]
theorem AfD:∀ {l m:List UInt8},Op.bytesLess l m=decide (compareBytes l m<0):=by
 intro l
 induction l with
 | nil=>intro m;cases m<;>simp[Op.bytesLess,compareBytes]
 | cons a l ih=>
  intro m;cases m with
  | nil=>simp[Op.bytesLess,compareBytes]
  | cons b m=>
   simp only[Op.bytesLess,compareBytes,ih];by_cases h1:a<b
   ·simp[h1]
   ·by_cases h2:b<a
    ·have:¬ a=b:=fun e=>UInt8.lt_irrefl _ (e▸h2)
     simp[h1,h2,this]
    ·have e:a=b:=UInt8.le_antisymm (UInt8.not_lt.1 h2) (UInt8.not_lt.1 h1);simp[e,UInt8.lt_irrefl]
theorem XO (a b:ByteArray):Op.bytesLess a.toList b.toList=decide (ZN a b<0):=by
 rw[AfD,Lib.toList_data,Lib.toList_data];rfl
theorem AfR {a b:ByteArray} (h:a.data.toList=b.data.toList):a=b:=by
 cases a;cases b;simpa using Array.toList_inj.1 h
theorem Lv {a b:ByteArray}:ZN a b=0↔a=b:=⟨fun h=>AfR (Agf.1 h),fun h=>Agf.2 (by rw[h])⟩
theorem I1 (a b:ByteArray):ZN a b = -1\/ZN a b=0\/ZN a b=1:=AaT _ _
def fCmpStr:Fct:=⟨[aT,aT],[rI],fun _=>True,fun x=>(ZN x.1 x.2.1,())⟩
def cmpA (a b:SAddr):Int:=if ZN a.host b.host=0 then ZN a.path b.path else ZN a.host b.host
theorem US (a b:SAddr):cmpA a b = -1\/cmpA a b=0\/cmpA a b=1:=by unfold cmpA;split<;>exact I1 _ _
theorem AcR {a b:SAddr}:cmpA a b=0↔a=b:=by
 obtain⟨h,p⟩:=a;obtain⟨h',p'⟩:=b;simp only[cmpA,SAddr.mk.injEq];split
 ·rename_i e;rw[Lv,Lv.1 e];simp
 ·rename_i e;constructor
  ·intro h;exact absurd h e
  ·rintro⟨rfl,_⟩;exact absurd (Lv.2 rfl) e
end Go.D
namespace Go.D
def Hr (n:Int):ByteArray:=⟨(Lib.itoa n).toArray⟩
def Abv (k:Nat) (s:ByteArray):ByteArray:=if k=0 then s else⟨(Lib.decDigits k).toArray⟩++s
theorem Fu {k:Nat} (h:10<=k):Lib.decDigits k=Lib.decDigits (k / 10)++[UInt8.ofNat (48+k % 10)]:=by
 rw[Lib.decDigits,dif_neg (by omega)]
theorem D7 {k:Nat} (h:k<10):Lib.decDigits k=[UInt8.ofNat (48+k)]:=by
 rw[Lib.decDigits,dif_pos h]
theorem Po {k:Nat} {s:ByteArray} (h:0<k):Abv k s=Abv (k / 10) (⟨#[UInt8.ofNat (48+k % 10)]⟩++s):=by
 unfold Abv;rw[Qa3 (by omega)];by_cases h1:k<10
 ·rw[Qa2 (by omega),D7 h1,Nat.mod_eq_of_lt h1]
 ·rw[Qa3 (by omega),Fu (by omega)];rw[<-ByteArray.append_assoc];congr 1
theorem VP:Hr 0=⟨#[48]⟩:=by
 unfold Hr Lib.itoa;rw[Qa3 (by omega),D7 (by decide)];rfl
theorem AaY {n:Int} (h:n<0):Hr n=⟨#[45]⟩++Abv n.natAbs ⟨#[]⟩:=by
 unfold Hr Lib.itoa Abv;rw[Qa2 h,Qa3 (by omega)];apply ByteArray.ext;simp
theorem Aat {n:Int} (h:0<n):Hr n=Abv n.natAbs ⟨#[]⟩:=by
 unfold Hr Lib.itoa Abv;rw[Qa3 (by omega),Qa3 (by omega),show n.toNat=n.natAbs by omega];apply ByteArray.ext;simp
theorem EQ:∀ (f k:Nat),k<10 ^ (f+1)->(Lib.decDigits k).length<=f+1
 | 0,k,h=>by rw[D7 (by omega)];simp
 | f+1,k,h=>by
  by_cases h1:k<10
  ·rw[D7 h1];simp
  ·rw[Fu (by omega),Qa4];have:=EQ f (k / 10) (by rw[Nat.pow_succ] at h;omega);simp only[Qa6,Qb8];omega
theorem Kz {n:Int} (h0 : -9223372036854775808<=n) (h1:n<=9223372036854775807):(Hr n).size<=20:=by
 have e:(Hr n).size=(Lib.itoa n).length:=by simp[Hr,ByteArray.size]
 rw[e];unfold Lib.itoa;split
 ·have:=EQ 18 n.natAbs (by omega);simp only[Qa6];omega
 ·have:=EQ 18 n.toNat (by omega);omega
theorem Zs (x:Int):(if x.tmod 10<0 then 0-x.tmod 10 else x.tmod 10)=((x.natAbs % 10:Nat):Int):=by
 have h1:(x.tmod 10).natAbs=x.natAbs % 10:=Int.natAbs_tmod x 10;split<;>omega
theorem Zu (x:Int):(x.tdiv 10).natAbs=x.natAbs / 10:=Int.natAbs_tdiv x 10
theorem Amq {k:Nat} (h:k<10):IntKind.u8.wrap (IntKind.i64.wrap (48+(k:Int)))=((48+k:Nat):Int):=by
 have e:IntKind.i64.wrap (48+(k:Int))=48+(k:Int):=Ah (by omega);rw[e];simp only[IntKind.wrap,IntKind.bits,IntKind.signed,Bool.false_and,Qc7,Qe2];have:(2 ^ 8:Int)=256:=rfl;omega
theorem V7 {k:Nat} (h:k<10):List.foldl (fun(r:ByteArray) (n:Int)=>r.push (UInt8.ofNat n.toNat)) ByteArray.empty [((48+k:Nat):Int)]=⟨#[UInt8.ofNat (48+k)]⟩:=by
 simp only[List.foldl,Qg6];rfl
end Go.D
namespace Go.D
def JG (b:UInt8):List UInt8->List (List UInt8)
 | []=>[[]]
 | x::l=>if x=b then[]::JG b l else match JG b l with
  | []=>[[x]]
  | h::t=>(x::h)::t
theorem HE (b:UInt8) (l:List UInt8):JG b l≠[]:=by
 cases l with
 | nil=>simp[JG]
 | cons x l=>
  unfold JG;split
  ·simp
  ·split<;>simp
def Kk (p:List UInt8):List (List UInt8)->List (List UInt8)
 | []=>[p]
 | h::t=>(p++h)::t
theorem Qb {l:List (List UInt8)} (h:l≠[]):Kk [] l=l:=by
 cases l with
 | nil=>exact absurd rfl h
 | cons x l=>rfl
theorem D6 (b x:UInt8) (l:List UInt8):JG b (x::l)=if x=b then[]::JG b l else Kk [x] (JG b l):=by
 rw[JG];split
 ·rfl
 ·have:=HE b l;cases h:JG b l with
  | nil=>exact absurd h this
  | cons y t=>rfl
theorem QN (p q:List UInt8) {l:List (List UInt8)} (h:l≠[]):Kk p (Kk q l)=Kk (p++q) l:=by
 cases l with
 | nil=>exact absurd rfl h
 | cons x l=>simp[Kk]
theorem Ms (p h:List UInt8) (t:List (List UInt8)):Kk p (h::t)=(p++h)::t:=rfl
theorem SK {b:UInt8}:∀ {p:List UInt8} (l:List UInt8),b∉p->JG b (p++b::l)=p::JG b l
 | [],l,_=>by rw[Qg1,D6,Qa2 rfl]
 | x::p,l,h=>by simp only[Qd3,not_or] at h;rw[Qf4,D6,Qa3 (fun e=>h.1 e.symm),SK l h.2];rfl
theorem Pv {b:UInt8}:∀ {p:List UInt8},b∉p->JG b p=[p]
 | [],_=>rfl
 | x::p,h=>by simp only[Qd3,not_or] at h;rw[D6,Qa3 (fun e=>h.1 e.symm),Pv h.2];rfl
theorem M6 (b:UInt8):∀ l:List UInt8,(JG b l).length<=l.length+1/\∀ p∈JG b l,p.length<=l.length
 | []=>by simp[JG]
 | x::l=>by
  obtain⟨h1,h2⟩:=M6 b l;rw[D6];split
  ·refine⟨by simp only[Qa6];omega,fun p hp=>?_⟩;rcases Qd3.1 hp with rfl|hp
   ·simp
   ·have:=h2 p hp;simp only[Qa6];omega
  ·cases h:JG b l with
   | nil=>exact absurd h (HE b l)
   | cons y t=>
    rw[h] at h1 h2;refine⟨by simp only[Kk,Qa6] at h1 ⊢;omega,fun p hp=>?_⟩;simp only[Kk,Qd3] at hp;rcases hp with rfl|hp
    ·have:=h2 y Qf3;simp only[Qa4,Qa6,Qb8];omega
    ·have:=h2 p (Qd9 _ hp);simp only[Qa6];omega
def ofL (l:List UInt8):ByteArray:=⟨l.toArray⟩
def toL (s:ByteArray):List UInt8:=s.data.toList
theorem C7 (s:ByteArray):ofL (toL s)=s:=by simp[ofL,toL]
theorem Jj (l:List UInt8):toL (ofL l)=l:=by simp[ofL,toL]
theorem Bq (s:ByteArray):(toL s).length=s.size:=rfl
theorem Fh (l:List UInt8):(ofL l).size=l.length:=by simp[ofL,ByteArray.size]
theorem Eg (s t:ByteArray):toL (s++t)=toL s++toL t:=by simp[toL]
theorem Hj (l m:List UInt8):ofL (l++m)=ofL l++ofL m:=by
 apply ByteArray.ext;simp[ofL]
theorem AY (s:ByteArray) (a b:Nat):toL (s.extract a b)=((toL s).take b).drop a:=by
 simp[toL,List.drop_take]
def spl (b:UInt8) (s:ByteArray):List ByteArray:=(JG b (toL s)).map ofL
def IN (b:UInt8) (s:ByteArray) (a i:Nat):List ByteArray:=if i<=s.size then(Kk (((toL s).take i).drop a) (JG b ((toL s).drop i))).map ofL else[]
theorem TH (b:UInt8) (s:ByteArray):IN b s 0 0=spl b s:=by
 unfold IN spl;rw[Qa2 (Nat.zero_le _)];simp[Qb (HE b _)]
theorem Pi (b:UInt8) {s:ByteArray} {a i:Nat} (h:s.size<i):IN b s a i=[]:=by
 unfold IN;rw[Qa3 (by omega)]
theorem U7 (b:UInt8) {s:ByteArray} {a i:Nat} (h:i=s.size):IN b s a i=[s.extract a i]:=by
 subst h;unfold IN;rw[Qa2 (Qa8 _),Qb6 (l:=toL s) (i:=s.size) (by rw[Bq];exact Qa8 _)];rw[JG,Ms,Qd8,Qc8,<-AY,C7];rfl
theorem G5 {s:ByteArray} {i:Nat} (h:i<s.size):(toL s).drop i=s.data.getD i 0::(toL s).drop (i+1):=by
 have h2:i<s.data.size:=h;have e:s.data.getD i 0=s.data[i]:=by unfold Array.getD;rw[dif_pos h2];rfl
 rw[List.drop_eq_getElem_cons (by rw[Bq];exact h),e];rfl
theorem YY {b:UInt8} {s:ByteArray} {a i:Nat} (h:i<s.size) (hb:s.data.getD i 0=b):IN b s a i=s.extract a i::IN b s (i+1) (i+1):=by
 unfold IN;rw[Qa2 (by omega),Qa2 (by omega),G5 h,D6,Qa2 hb];rw[Ms,Qd8,Qc8,<-AY,C7,Qb6 (l:=(toL s).take (i+1)) (i:=i+1) (by rw[Qc1];omega),Qb (HE b _)]
theorem U0 {b:UInt8} {s:ByteArray} {a i:Nat} (h:i<s.size) (ha:a<=i) (hb:s.data.getD i 0≠b):IN b s a i=IN b s a (i+1):=by
 unfold IN;rw[Qa2 (by omega),Qa2 (by omega),G5 h,D6,Qa3 hb,QN _ _ (HE b _)];congr 2;have:(toL s).take (i+1)=(toL s).take i++[s.data.getD i 0]:=by
  have h2:i<s.data.size:=h;have e:s.data.getD i 0=s.data[i]:=by unfold Array.getD;rw[dif_pos h2];rfl
  rw[List.take_succ_eq_append_getElem (by rw[Bq];exact h),e];rfl
 rw[this,List.drop_append_of_le_length (by rw[Qc1,Bq];omega)]
theorem S2 (b:UInt8):∀ l:List UInt8,((JG b l).map fun p=>p.length+1).sum=l.length+1
 | []=>rfl
 | x::l=>by
  have h:=S2 b l;rw[D6];split
  ·simp only[Qc8,List.sum_cons,Qb8,Qa6,h];omega
  ·cases hq:JG b l with
   | nil=>exact absurd hq (HE b l)
   | cons y t=>
    rw[hq] at h;simp only[Qc8,List.sum_cons,Kk,Qa4,Qa6,Qb8] at h ⊢;omega
theorem DE (b:UInt8) (s:ByteArray):0<(spl b s).length/\(spl b s).length<=s.size+1:=by
 have h:=M6 b (toL s);have h2:=HE b (toL s);rw[Bq] at h;unfold spl;rw[Qf6];exact⟨List.length_pos_iff.2 h2,h.1⟩
theorem Hz {b:UInt8} {s x:ByteArray} (h:x∈spl b s):x.size<=s.size:=by
 unfold spl at h;obtain⟨p,hp,rfl⟩:=Qg7.1 h;rw[Fh];exact(M6 b (toL s)).2 p hp
def Es (b:UInt8):List UInt8->Option (List UInt8×List UInt8)
 | []=>none
 | x::l=>if x=b then some ([],l) else(Es b l).map fun r=>(x::r.1,r.2)
theorem J5 {b:UInt8}:∀ {l:List UInt8},b∉l->Es b l=none
 | [],_=>rfl
 | x::l,h=>by simp only[Qd3,not_or] at h;rw[Es,Qa3 (fun e=>h.1 e.symm),J5 h.2];rfl
theorem Oo {b:UInt8}:∀ {p:List UInt8} (l:List UInt8),b∉p->Es b (p++b::l)=some (p,l)
 | [],l,_=>by rw[Qg1,Es,Qa2 rfl]
 | x::p,l,h=>by simp only[Qd3,not_or] at h;rw[Qf4,Es,Qa3 (fun e=>h.1 e.symm),Oo l h.2];rfl
theorem Xc {b:UInt8} {s:ByteArray} {i:Nat} (h:i<s.size) (hb:s.data.getD i 0=b) (hn:b∉(toL s).take i):Es b (toL s)=some ((toL s).take i,(toL s).drop (i+1)):=by
 have e:toL s=(toL s).take i++b::(toL s).drop (i+1):=by rw[<-hb,<-G5 h,Qd5]
 rw[e,Oo _ hn,<-e]
theorem WL {b:UInt8} {s:ByteArray} {i:Nat} (h:i<s.size) (hb:s.data.getD i 0≠b) (hn:b∉(toL s).take i):b∉(toL s).take (i+1):=by
 have h2:i<s.data.size:=h;have e:s.data.getD i 0=s.data[i]:=by unfold Array.getD;rw[dif_pos h2];rfl
 rw[List.take_succ_eq_append_getElem (by rw[Bq];exact h),Qc0,not_or];refine⟨hn,?_⟩;simp only[List.mem_singleton];intro h3;exact hb (by rw[e];exact h3.symm)
end Go.D
namespace Go.D
open Go.Sort
def pv:Ty->Bool
 | .int=>true
 | .bool=>true
 | .str=>true
 | .u8=>true
 | _=>false
def vOf (t:Ty) (x:El t):Value:=match enc t x with
 | [.val v]=>v
 | _=>undef
def Gz:(as:List Ak)->As as->List Value
 | [],_=>[]
 | .v (.el t)::as,x=>vOf t x.1::Gz as x.2
 | _::as,x=>undef::Gz as x.2
def HF:List Ak->Bool
 | []=>true
 | .v (.el t)::as=>pv t&&HF as
 | _::_=>false
def F9:List Sh->Bool
 | []=>true
 | .el t::rs=>pv t&&F9 rs
 | _::_=>false
def HH:(rs:List Sh)->Ts rs->List Value
 | [],_=>[]
 | .el t::rs,x=>vOf t x.1::HH rs x.2
 | .sl _::rs,x=>undef::HH rs x.2
def Ads:List Value->Value
 | [v]=>v
 | vs=>.tuple vs.toArray
theorem X5 {t:Ty} (h:pv t=true) (x:El t):enc t x=[.val (vOf t x)]/\plain (vOf t x)=true/\(Sh.el t).agg=false:=by
 cases t<;>first|exact⟨rfl,rfl,rfl⟩|cases h
theorem Ml {w:World} {G:Gh}:∀ (as:List Ak) (x:As as),HF as=true->∀ (vs:List Value),vs.length=(DY as x).length->(∀ (j:Nat) (y:TV),(DY as x)[j]? = some y->∃ v,vs[j]? = some v/\TVR w G y v)->vs=Gz as x:=by
 intro as
 induction as with
 | nil=>intro x _ vs hl _;exact List.eq_nil_of_length_eq_zero hl
 | cons a as ih=>
  intro x hp vs hl hh;cases a with
  | v s=>
   cases s with
   | el t=>
    simp only[HF,Qa1] at hp;obtain⟨e1,e2,e3⟩:=X5 hp.1 x.1;cases vs with
    | nil=>simp[DY] at hl
    | cons v vs=>
     obtain⟨v',hv,hr⟩:=hh 0 _ rfl;simp only[List.getElem?_cons_zero,Qa0] at hv;subst hv;have hc:Abr (.v (.el t)) x.1=.v false [.sc (vOf t x.1)]:=by show TV.v (Sh.el t).agg ((enc t x.1).map (toCell none))=_;rw[e1,e3];rfl
     rw[hc] at hr;obtain⟨c,hc1,hc2⟩:=hr;injection hc1 with hc1
     subst hc1;rw[Gz,hc2.1,ih x.2 hp.2 vs (by simpa [DY] using hl) fun j y hj=>hh (j+1) y hj]
   | sl t=>simp[HF] at hp
  | _=>simp[HF] at hp
theorem LM:∀ (rs:List Sh) (y:Ts rs),F9 rs=true->Jh rs y=(HH rs y).map fun v=>(false,[FC.val v]):=by
 intro rs
 induction rs with
 | nil=>intro y _;rfl
 | cons s rs ih=>
  intro y hp;cases s with
  | el t=>
   simp only[F9,Qa1] at hp;obtain⟨e1,e2,e3⟩:=X5 hp.1 y.1;simp only[Jh,HH,Qc8,ih y.2 hp.2,e3];congr 2
  | sl t=>simp[F9] at hp
theorem PZ:∀ (rs:List Sh) (y:Ts rs),F9 rs=true->∀ v∈HH rs y,plain v=true:=by
 intro rs
 induction rs with
 | nil=>intro y _ v hv;cases hv
 | cons s rs ih=>
  intro y hp v hv;cases s with
  | el t=>
   simp only[F9,Qa1] at hp;rcases Qd3.1 hv with rfl|hv
   ·exact(X5 hp.1 y.1).2.1
   ·exact ih y.2 hp.2 v hv
  | sl t=>simp[F9] at hp
theorem AcE {w:World}:∀ (vs:List Value),(∀ v∈vs,plain v=true)->ResR w (UT (vs.map fun v=>(false,[FC.val v]))) (Ads vs) (fun _ _ _=>False)
 | [],_=>⟨#[],rfl,rfl,by simp⟩
 | [v],h=>by
  refine⟨_,rfl,⟨rfl,h v (by simp)⟩,LI (h v (by simp))⟩
 | v::u::vs,h=>by
  refine⟨(v::u::vs).toArray,rfl,by simp,fun i p hp=>?_⟩;have hp:((v::u::vs).map fun v=>(false,[FC.val v]))[i]? = some p:=hp;rw[Qc3] at hp;cases hq:(v::u::vs)[i]? with
  | none=>rw[hq] at hp;cases hp
  | some x=>
   rw[hq] at hp;injection hp with hp
   subst hp;have:=h x (Qf7 hq);exact⟨x,by simpa using hq,_,rfl,⟨rfl,this⟩,LI this⟩
theorem SG {P:Program} {f:Nat} {S:Fct} (ha:HF S.as=true) (hr:F9 S.rs=true)
 (h:∀ x,S.pre x->∀ (w:World) (ow:Nat->Own),Base P w ow->Calls P f (Gz S.as x).toArray w fun e w'=>e=.returned (Ads (HH S.rs (S.fn x)))/\∃ n os,w'=grow (w.drewN n) os):S.ok P f:=by
 intro x hx w vs G hB hA;have hvs:vs=(Gz S.as x).toArray:=by
  have:=Ml (w:=w) (G:=G) S.as x ha vs.toList (by simpa [Fct.arg] using hA.sz) fun j y hj=>by obtain⟨v,hv,hr⟩:=hA.tm j y hj;exact⟨v,by simpa using hv,hr⟩
  rw[<-this]
 subst hvs;refine(h x hx w _ hB).mono ?_;rintro e w' ⟨rfl,n,os,rfl⟩;have hold:∀ g,g<w.heap.size->(grow (w.drewN n) os).heap[g]? = w.heap[g]?:=fun g hg=>by rw[heap_grow_old _ _ (show g<(w.drewN n).heap.size from hg)];rfl
 refine⟨_,⟨mkR S.rs (S.fn x),[],[]⟩,rfl,rfl,⟨rfl,rfl,⟨rfl,by first|exact DrLe.refl _|exact DrLe.succ _|exact DrLe.add _ _⟩,?_⟩,fun g hg=>hold g (hA.lt g (by simp[hg])),fun g hg=>(hA.cr g hg).same (hold g (hA.lt g (by simp[hg]))),fun _ _=>False,by simp,by simp,?_,?_,?_⟩
 ·show w.heap.size<=(w.heap++os).size;simp
 ·show ResR _ (UT (Jh S.rs (S.fn x))) _ _;rw[LM _ _ hr];exact AcE _ (PZ _ _ hr)
 ·intro m T hm;cases hm
 ·intro b cs hb;cases hb
theorem Aaj (w:World):w=grow (w.drewN 0) #[]:=by
 simp[grow,World.drewN]
end Go.D
namespace Go.D
open Go.RowKit
theorem Qz (w:World) (r:Array Value) (T:TypeId) (j:Nat) (v:Value):(w.alloc (.cells r T)).setCell ⟨w.heap.size,j,none⟩ v=w.alloc (.cells (r.setIfInBounds j v) T):=by
 rw[setCell_eq_setRow _ _ _ r T (0,0) v (heap_alloc_last w _),World.setRow_alloc_new]
theorem Ej (w:World) (r:Array Value) (T:TypeId) (j:Nat):(w.alloc (.cells r T)).cell? ⟨w.heap.size,j,none⟩=r[j]?:=cell_of_row _ _ j r T (0,0) (heap_alloc_last w _)
theorem Og (w:World) (r:Array Value) (T:TypeId) (j:Nat):(w.alloc (.cells r T)).frozen? ⟨w.heap.size,j,none⟩=false:=by
 simp only[World.frozen?,heap_alloc_last];simp
theorem SF {r:Array Value} {i:Nat} {v:Value} (hi:i<r.size) (t:Nat):(r.setIfInBounds i v)[t]? = if t=i then some v else r[t]?:=by
 rw[Array.getElem?_setIfInBounds];by_cases h:i=t
 ·subst h;simp[hi]
 ·rw[Qa3 h,Qa3 (fun e=>h e.symm)]
structure Neu (w w':World):Prop where
 os:w'.os=w.os
 tape:w'.tape=w.tape
 output:w'.output=w.output
 drawn:DrLe w.drawn w'.drawn
 size:w.heap.size<=w'.heap.size
 old:∀ g,g<w.heap.size->w'.heap[g]? = w.heap[g]?
theorem Neu.refl (w:World):Neu w w:=⟨rfl,rfl,rfl,DrLe.refl _,Qa8 _,fun _ _=>rfl⟩
theorem Neu.drew {w w':World} (h:Neu w w'):Neu w w'.drew:=⟨h.os,h.tape,h.output,h.drawn.trans (DrLe.succ _),h.size,h.old⟩
theorem Neu.alloc {w w':World} (h:Neu w w') (o:Obj):Neu w (w'.alloc o):=⟨h.os,h.tape,h.output,h.drawn,by rw[World.size_alloc];have:=h.size;omega,fun g hg=>by
 rw[<-h.old g hg];show(w'.heap.push o)[g]? = _;rw[Array.getElem?_push,Qa3 (by have:=h.size;omega)]⟩
theorem Neu.set {w w':World} (h:Neu w w') {a:Addr} (ha:w.heap.size<=a.block) (v:Value):Neu w (w'.setCell a v):=⟨h.os,h.tape,h.output,h.drawn,by rw[World.size_setCell];exact h.size,fun g hg=>by
 rw[<-h.old g hg];unfold World.setCell;simp only[Array.getElem?_modify];rw[Qa3 (by omega)]⟩
theorem Neu.bytes {w w':World} (h:Neu w w') (e:TypeId) (s:ByteArray):Neu w (Lib.bytesWorld w' e s):=⟨h.os,h.tape,h.output,h.drawn.trans (DrLe.succ _),by rw[Lib.bytesWorld_size];have:=h.size;omega,fun g hg=>by
 rw[<-h.old g hg];exact Lib.bytesWorld_at_old w' e s g (by have:=h.size;omega)⟩
theorem Neu.put {w w':World} (h:Neu w w') {α:Type} [Inhabited α] (enc:α->Value) {b:Nat} (hb:w.heap.size<=b) (off:Nat) (d:Array α):Neu w (Go.Sort.putRow enc w' b off d):=⟨h.os,h.tape,h.output,h.drawn,by
 unfold Go.Sort.putRow Go.Sort.mapBlock;simp only[Array.size_modify];exact h.size,fun g hg=>by
 rw[<-h.old g hg];unfold Go.Sort.putRow Go.Sort.mapBlock;simp only[Array.getElem?_modify];rw[Qa3 (by omega)]⟩
theorem Neu.trans {a b c:World} (h:Neu a b) (k:Neu b c):Neu a c:=⟨k.os.trans h.os,k.tape.trans h.tape,k.output.trans h.output,h.drawn.trans k.drawn,Qe7 h.size k.size,fun g hg=>(k.old g (Qf5 hg h.size)).trans (h.old g hg)⟩
theorem Neu.below {w w':World} (h:Below w.heap.size w w'):Neu w w':=⟨h.os,h.tape,h.output,trivial,h.size,fun g hg=>h.block g hg⟩
theorem Neu.grow (w:World) (k:Nat) (os:Array Obj):Neu w (Go.Sort.grow (w.drewN k) os):=⟨rfl,rfl,rfl,DrLe.add _ _,by show w.heap.size<=(w.heap++os).size;simp,fun g hg=>by
 show(w.heap++os)[g]? = _;rw[Array.getElem?_append_left hg]⟩
theorem Neu.laid {P:Program} {w w':World} (h:Neu w w') (l:Laid P w):Laid P w' :=
 ⟨fun q=>IB h.old (l.1 q),fun q=>let ⟨tp,p,hv⟩:=l.2.1 q;⟨tp,p,IB h.old hv⟩,fun q=>let ⟨tp,p,hv⟩:=l.2.2 q;⟨tp,p,IB h.old hv⟩⟩
theorem S5 {P:Program} {w:World} {n:String} {g:Nat} {x:Value} (hg:P.globalNamed n=some g) (h:w.var? P n=some #[x]):w.cell? ⟨g,0,none⟩=some x:=by
 unfold World.var? at h;rw[hg,Option.bind_some] at h;split at h
 ·rename_i cs e z hh;simp only[Qa0] at h;subst h;simp[World.cell?,hh]
 ·cases h
open Go.Sort in
theorem Rd {P:Program} {f:Nat} {S:Fct} (ha:HF S.as=true) (hr:F9 S.rs=true)
 (h:∀ x,S.pre x->∀ (w:World) (ow:Nat->Own),Base P w ow->Calls P f (Gz S.as x).toArray w fun e w'=>e=.returned (Ads (HH S.rs (S.fn x)))/\Neu w w'):S.ok P f:=by
 intro x hx w vs G hB hA;have hvs:vs=(Gz S.as x).toArray:=by
  have:=Ml (w:=w) (G:=G) S.as x ha vs.toList (by simpa [Fct.arg] using hA.sz) fun j y hj=>by obtain⟨v,hv,hr⟩:=hA.tm j y hj;exact⟨v,by simpa using hv,hr⟩
  rw[<-this]
 subst hvs;refine(h x hx w _ hB).mono ?_;rintro e w' ⟨rfl,hn⟩;refine⟨_,⟨mkR S.rs (S.fn x),[],[]⟩,rfl,rfl,⟨hn.os,hn.tape,⟨hn.output,hn.drawn⟩,hn.size⟩,fun g hg=>hn.old g (hA.lt g (by simp[hg])),fun g hg=>(hA.cr g hg).same (hn.old g (hA.lt g (by simp[hg]))),fun _ _=>False,by simp,by simp,?_,?_,?_⟩
 ·show ResR _ (UT (Jh S.rs (S.fn x))) _ _;rw[LM _ _ hr];exact AcE _ (PZ _ _ hr)
 ·intro m T hm;cases hm
 ·intro b cs hb;cases hb
end Go.D
