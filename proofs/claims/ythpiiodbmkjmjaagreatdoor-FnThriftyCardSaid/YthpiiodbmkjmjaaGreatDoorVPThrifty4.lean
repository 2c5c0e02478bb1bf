/-
  Contracts of functions that the law of FnThrifty reaches, part 4.
-/
import Derived.Test.YthpiiodbmkjmjaaGreatDoorVPThrifty3
namespace Go.Proofs.YthpiiodbmkjmjaaGreatDoor.fnThrifty
open Go.Proofs.YthpiiodbmkjmjaaGreatDoor
open Go.D Go.Proofs.Tryz
set_option maxRecDepth 100000
set_option maxHeartbeats 2000000
set_option linter.defProp false
set_option linter.unusedVariables false
set_option linter.unusedSimpArgs false
def AmL:=Am8.a Ej<|Fct.p (KP [1,2,3,4,5,6] [10,19,26]) (λ⟨p,_⟩=>lv [(3,EO p)]) Am8.2 func63 (by
 rintro⟨(p:C_),_⟩ hp;refine ho (.cl AA (p,()) λz2=>lpx (EO p) (z2.1,((0:Int),(default,()))) λ(y2:cm) bk2=>.br (decide (y2.2.1<2000)) (.cl Bn (y2.1,()) λz3=>.br (!z3.2.1) (.cl CB (y2.1,()) λz4=>.br (!z4.2.1) (.lf Ej (y2.1,())) (.bk (bk2 (z4.1,(w1 y2.2.1,(y2.2.2.1,())))))) (.br (!z3.2.1) (.lf Ej (y2.1,())) (.bk (bk2 (z3.1,(w1 y2.2.1,(y2.2.2.1,()))))))) (.lf Ej (y2.1,()))) ?_;refine Ae ?_ λ_=>(Am ?_ λ(y2:cm) i2=>Aa (λh3=>Ae ?_ λ_=>Aa (λh5=>Ae ?_ λ_=>Aa (λh7=>lfY ?_) λh7=>AR ?_) λh5=>Aa (λh9=>lfY ?_) λh9=>AR ?_) λh3=>lfY ?_)<;>(have hq:okAdv p:=hp;have h0:=(I8 (J2 hq)).1.1.1;try simp only[std,Nat.reduceAdd] at *)<;>(first|trivial|omega|skip)<;>(first|exact J2 hq|exact⟨J2 hq,rfl⟩|(obtain⟨i3,e1⟩:=i2;have ht:=I8 i3))<;>(first|exact ht|exact ht.1|exact(tf ‹_› ‹_›).elim|skip)<;>(first|exact IK i3 (λh=>absurd h o_)|exact IK i3 (λ_=>by rw[Mu ‹_›];assumption)|skip)<;>rw[Ah (by have:=i3.1;omega)]<;>(first|(have e:=Ln i3 ‹_› (by rw[Mu ‹_›];assumption);rw[Mu ‹_›] at e;exact⟨⟨e,e1⟩,o_⟩)|(have e:=Ln i3 ‹_› (by rw[RJ ‹_›];assumption);rw[RJ ‹_›] at e;exact⟨⟨e,e1⟩,o_⟩)))
def arrPage (l:N_):C_:=if l.parts.length=1 then endPage (arriveText l.page (l.parts.getD 0 default)) else arriveText l.page (l.parts.getD 0 default)
def arrivePart (l:N_):N_×Bool:=if l.parts.length=0 then(l,false) else({ l with parts:=l.parts.drop 1,page:=advance (arrPage l)},true)
def Ae4:∀ l:List ay,undS l<=l.length
 | []=>aa _
 | s::l=>by have:=Ae4 l;rw[undS,aw];split<;>omega
def Y8:∀ l:List Y_,undM l<=l.length
 | []=>aa _
 | s::l=>by have:=Y8 l;rw[undM,aw];split<;>omega
def AeY (r:List D_):∀ l:List Y_,nrL r l<=szL AF l
 | []=>aa _
 | s::l=>by have:=AeY r l;rw[nrL,Ag];split<;>simp only[AF]<;>omega
def TU {p:C_} (h:Aj p<=2000000):okAll p 2000000 1100000000 10000000:=by
 have h1:=Ac AO p.bf;have h2:=Ac AF p.bh;have h3:=Ae4 p.bf;have h4:=Y8 p.bh;have h5:=AeY p.ran p.bh;have h6:=Ac AM p.ba.bi;simp only[Aj,Gp,szBuilder] at h;refine⟨⟨λt ht=>?_,o_⟩,⟨?_,?_⟩,⟨?_,λs hs=>?_⟩,⟨?_,?_,?_,λm hm=>?_⟩,?_,?_⟩
 ·have:=Jn szToken ht;omega
 ·unfold nodeP;omega
 ·unfold openP;omega
 ·unfold slotP;omega
 ·have:=Jn AO hs;simp only[AO] at this;omega
 ·unfold entP;omega
 ·unfold modP;omega
 ·unfold ranP;omega
 ·have:=Jn AF hm;simp only[AF] at this;omega
 ·unfold okLg logP;omega
 ·unfold okCm;omega
def Z2 {p:C_} {Q M R:Nat} {s:ByteArray} (h:okAll p Q M R) (hs:p.tok.rest.size+s.size<=3000000):okAll (arriveText p s) (Q+3000001) M R/\(arriveText p s).tok.rest.size<=p.tok.rest.size+s.size+1:=by
 unfold arriveText;split
 ·exact⟨Gw h o_,o_⟩
 ·obtain⟨h1,h2,h3,h4,h5,h6⟩:=h;have hz:=MM (p.tok.rest++s);rw[aQ] at hz;refine⟨⟨⟨λt ht=>?_,?_⟩,h2,h3,h4,h5,?_⟩,?_⟩
  ·rcases aR.1 ht with q|q
   ·exact h1.1 t q
   ·have:=Jn szToken q;omega
  ·dsimp only;rw[Cr];have:=h1.2;omega
  ·unfold okCm at *;dsimp only;omega
  ·dsimp only;omega
def AhN {p:C_} {Q M R:Nat} (h:okAll p Q M R) (hs:p.tok.rest.size<=3000010):okAll (endPage p) (Q+3000020) M R/\(endPage p).tok.rest.size<=p.tok.rest.size:=by
 unfold endPage;split
 ·exact⟨Gw h o_,aa _⟩
 ·obtain⟨h1,h2,h3,h4,h5,h6⟩:=h;have hz:=PE p.tok.rest;have h0:(default:dv).rest.size=0:=rfl;refine⟨⟨⟨λt ht=>?_,?_⟩,h2,h3,h4,h5,?_⟩,?_⟩
  ·rcases aR.1 ht with q|q
   ·exact h1.1 t q
   ·have:=Jn szToken q;omega
  ·dsimp only;rw[Cr];have:=h1.2;omega
  ·unfold okCm at *;dsimp only;omega
  ·dsimp only;omega
def Ael {l:N_} {Q M R:Nat} (h:okAll l.page Q M R) (hs:l.page.tok.rest.size+(l.parts.getD 0 default).size<=3000000):okAll (arriveText l.page (l.parts.getD 0 default)) (Q+3000001) M R/\okAll (arrPage l) (Q+6000021) M R/\(arrPage l).tok.rest.size<=l.page.tok.rest.size+(l.parts.getD 0 default).size+1:=by
 have h1:=Z2 h hs;unfold arrPage;split
 ·have h2:=AhN h1.1 o_;exact⟨h1.1,Gw h2.1 o_,o_⟩
 ·exact⟨h1.1,Gw h1.1 o_,h1.2⟩
def JR {p:C_} {Q M R:Nat} (h:okAll p Q M R) (hQ:Q<=900000000000) (hM:M<=50000000000) (hR:R<=20000000000):Aj p<=1000000000000:=(Pv h hQ hM hR).1.1.1
def okLd (l:N_):Prop:=∃ Q M R,okAll l.page Q M R/\Q<=890000000000/\M<=50000000000/\R<=20000000000
def okArr (l:N_):Prop:=(szNet l.net<=68719476736/\l.conns.length<=1048576/\l.guesses.length<=4194304)/\l.page.tok.rest.size+szL Af l.parts<=2900000/\okLd l
def VN {l:N_} (h:okArr l) (hl:l.parts.length≠0):Aj l.page<=1000000000000/\l.page.tok.rest.size<=10000000/\(l.parts.getD 0 default).size<=10000000/\Aj (arriveText l.page (l.parts.getD 0 default))<=1000000000000/\okAdv (arrPage l):=by
 obtain⟨h1,h2,Q,M,R,h3,h4,h5,h6⟩:=h;have hg:=C6 Af (l:=l.parts) (i:=0) o_;simp only[Af] at hg;obtain⟨a1,a2,a3⟩:=Ael h3 o_;exact⟨JR h3 o_ h5 h6,o_,o_,JR a1 o_ h5 h6,Q+6000021,M,R,a2,o_,h5,h6⟩
def OI {l:N_} (h:l.parts.length≠0):arrivePart l=({ l with parts:=l.parts.drop 1,page:=advance (arrPage l)},true):=by unfold arrivePart;rw[J_ h]
def AbT {l:N_} (h:l.parts.length=0):arrivePart l=(l,false):=by unfold arrivePart;rw[I_ h]
def RU {l:N_} (h:l.parts.length=1):arrPage l=endPage (arriveText l.page (l.parts.getD 0 default)):=by unfold arrPage;rw[I_ h]
def Q0 {l:N_} (h:l.parts.length≠1):arrPage l=arriveText l.page (l.parts.getD 0 default):=by unfold arrPage;rw[J_ h]
def K7 {α:Type} {l:List α}:cut l 1 (l.length-1)=l.drop 1:=by
 unfold cut;rw[ct (by simp)]
abbrev CN:Fct:=⟨[.v (.el .loader)],[.el .loader,.el .bool],λ(x:aD)=>okArr x.1,λ(x:aD)=>((arrivePart x.1).1,(arrivePart x.1).2,())⟩
def Amy:=AmL.a CN<|Fct.o (KP [1,2,3,4,5] [11,27]) AmL.2 func11 (by
 rintro⟨(l:N_),_⟩ hp;refine ho (.cl A9 (l,()) λz2=>.br ((l.parts.length:Int)==0) (.lf CN (z2.1,false,())) (.ob ((0:Int)<=(0:Int)/\(0:Int)<(l.parts.length:Int))<|.cl D4 (l.page,l.parts.getD 0 default,()) λz3=>.ob ((0:Int)<=(1:Int)/\(1:Int)<=(z2.1.parts.length:Int))<|.br ((↑(z2.1.parts.length-1):Int)==0) (.cl HU (z3.1,()) λz4=>.cl Ej (z4.1,()) λz5=>.ob (1+(z2.1.parts.length-1)<=z2.1.parts.length)<|.lf CN (⟨z2.1.net,z5.1,cut z2.1.parts 1 (z2.1.parts.length-1),z2.1.conns,z2.1.guesses⟩,true,())) (.cl Ej (z3.1,()) λz6=>.ob (1+(z2.1.parts.length-1)<=z2.1.parts.length)<|.lf CN (⟨z2.1.net,z6.1,cut z2.1.parts 1 (z2.1.parts.length-1),z2.1.conns,z2.1.guesses⟩,true,())))) ?_;refine Ae ?_ λ_=>(Aa (λh2=>lfY ?_) λh2=>Ab ?_ λ_=>Ae ?_ λ_=>Ab ?_ λ_=>Aa (λh6=>Ae ?_ λ_=>Ae ?_ λ_=>Ab ?_ λ_=>lfY ?_) λh6=>Ae ?_ λ_=>Ab ?_ λ_=>lfY ?_)<;>have hq:okArr l:=hp<;>obtain⟨hsz1,hsz2,hsz3⟩:=hq.1<;>(have hpg:Aj l.page<=1000000000000:=by(obtain⟨Q,M,R,h1,h2,h3,h4⟩:=hq.2.2;exact JR h1 o_ h3 h4))<;>(have hpl:l.parts.length<=2900000:=by(have h1:=hq.2.1;have:=Ac Af l.parts;omega))<;>(try simp only[std,Nat.reduceAdd] at *)<;>(first|trivial|omega|(rw[AbT o_];exact⟨rfl,rfl⟩)|(obtain⟨g1,g2,g3,g4,g5⟩:=VN hq o_)|skip)<;>(first|trivial|omega|exact⟨g1,g2,g3⟩|skip)<;>(first|(rw[RU o_] at g5;first|exact g5|(rw[OI o_,RU o_,K7];exact⟨rfl,rfl⟩))|(rw[Q0 o_] at g5;first|exact g5|(rw[OI o_,Q0 o_,K7];exact⟨rfl,rfl⟩))))
def opWords:List ByteArray:=[⟨#[]⟩,⟨#[119,114,105,116,101]⟩,⟨#[97,100,100]⟩,⟨#[99,111,117,110,116]⟩,⟨#[108,111,111,107]⟩,⟨#[115,97,121]⟩]
def opW (n:Int):ByteArray:=if 1<=n/\n<=5 then opWords.getD n.toNat default else⟨#[]⟩
def AeC {n:Int} (h:1<=n) (h2:n<=5):opW n=opWords.getD n.toNat default:=by unfold opW;rw[I_ ⟨h,h2⟩]
abbrev QI:Fct:=⟨[.v (.el .int)],[.el .str],λ(x:B_)=>True,λ(x:B_)=>(opW x.1,())⟩
def Am6:=Amy.a QI<|Fct.o (KP [0,2] [5]) Amy.2 func413 (by
 rintro⟨(n:Int),_⟩ hp;refine ho (.cl Au (n,(1:Int),(5:Int),()) λz2=>.br (!z2.1) (.lf QI ((⟨#[]⟩:ByteArray),())) (.ob (0<=wr (n-(1:Int))/\wr (n-(1:Int))<5)<|.ob ((wr (n-(1:Int))).toNat<5)<|.lf QI ([(⟨#[119,114,105,116,101]⟩:ByteArray),(⟨#[97,100,100]⟩:ByteArray),(⟨#[99,111,117,110,116]⟩:ByteArray),(⟨#[108,111,111,107]⟩:ByteArray),(⟨#[115,97,121]⟩:ByteArray)].getD (wr (n-(1:Int))).toNat default,()))) ?_;refine Ae trivial λ_=>(Aa (λh1=>lfY ?_) λh1=>Ab ?_ λ_=>Ab ?_ λ_=>lfY ?_)<;>(try simp only[std,Nat.reduceAdd,inRange] at *)<;>(try simp only[Z_,ep,aH,ca] at *)<;>(first|trivial|omega|(unfold opW;rw[J_ o_])|(rw[Ah o_];omega)|skip)<;>rw[Ah o_,AeC o_ o_]<;>(rcases(show n=1\/n=2\/n=3\/n=4\/n=5 from o_) with rfl|rfl|rfl|rfl|rfl<;>rfl))
def Uy (b:UInt8) (s:ByteArray):(Hl b s).1.size<=s.size/\(Hl b s).2.1.size<=s.size:=by
 unfold Hl;cases h:G7 b (toL s) with
 | none=>exact⟨aa _,Nat.zero_le _⟩
 | some r=>
  have:=Qy (p:=r.1) (q:=r.2) h;rw[Br] at this;exact⟨by dsimp only;rw[HW];exact this.1,by dsimp only;rw[HW];exact this.2⟩
def Qv {b:UInt8}:∀ {l p q:List UInt8},G7 b l=some (p,q)->l=p++b::q/\b∉p
 | [],p,q,h=>by cases h
 | x::l,p,q,h=>by
  rw[G7] at h;split at h
  ·rename_i hx;obtain⟨rfl,rfl⟩:=Prod.mk.inj (Option.some.inj h);exact⟨by rw[hx];rfl,by simp⟩
  ·rename_i hx;obtain⟨r,hr,he⟩:=Option.map_eq_some_iff.1 h;obtain⟨rfl,rfl⟩:=Prod.mk.inj he;obtain⟨h1,h2⟩:=Qv (p:=r.1) (q:=r.2) hr;refine⟨by rw[h1];rfl,?_⟩;rw[cp];rintro(h|h)
   ·exact hx h.symm
   ·exact h2 h
def Agv {a b:ByteArray} (h:toL a=toL b):a=b:=by rw[<-Cg a,h,Cg]
def Z6 {x s:ByteArray} (hx:(32:UInt8)∉toL x):(((x++⟨#[32]⟩).size<=s.size/\s.extract 0 (x++⟨#[32]⟩).size=x++⟨#[32]⟩)↔(Hl 32 s).2.2=true/\(Hl 32 s).1=x)/\((Hl 32 s).2.2=true/\(Hl 32 s).1=x->(Hl 32 s).2.1=s.extract (x++⟨#[32]⟩).size s.size):=by
 have e32:toL (x++⟨#[32]⟩)=toL x++[32]:=by rw[C2];rfl
 have hsz:(x++⟨#[32]⟩).size=(toL x).length+1:=by rw[aQ];rfl
 have fwd:((x++⟨#[32]⟩).size<=s.size/\s.extract 0 (x++⟨#[32]⟩).size=x++⟨#[32]⟩)->G7 32 (toL s)=some (toL x,(toL s).drop ((toL x).length+1)):=by rintro⟨h1,h2⟩;have h3:=congrArg toL h2;rw[A4,dt,e32,hsz] at h3;have h4:=(eg ((toL x).length+1) (toL s)).symm;rw[h3,bB,List.singleton_append] at h4;have h5:=Q2 (p:=toL x) ((toL s).drop ((toL x).length+1)) hx;rw[<-h4] at h5;exact h5
 refine⟨⟨λh=>?_,λh=>?_⟩,λh=>?_⟩
 ·have:=fwd h;unfold Hl;rw[this];exact⟨rfl,Cg x⟩
 ·unfold Hl at h;cases hc:G7 32 (toL s) with
  | none=>rw[hc] at h;exact absurd h.1 Bool.false_ne_true
  | some r=>
   obtain⟨p,q⟩:=r;rw[hc] at h;have hp:ofL p=x:=h.2;obtain⟨h1,h2⟩:=Qv hc;have hpx:p=toL x:=by rw[<-hp,Mc]
   rw[hpx] at h1;have hl:s.size=(toL x).length+(q.length+1):=by rw[<-Br,h1,al,aw]
   refine⟨by rw[hsz];omega,?_⟩;refine Agv ?_;rw[A4,dt,e32,hsz,h1,List.take_append,ct o_,show(toL x).length+1-(toL x).length=1 from o_];rfl
 ·unfold Hl at h ⊢;cases hc:G7 32 (toL s) with
  | none=>rw[hc] at h;exact absurd h.1 Bool.false_ne_true
  | some r=>
   obtain⟨p,q⟩:=r;rw[hc] at h;have hp:ofL p=x:=h.2;obtain⟨h1,h2⟩:=Qv hc;have hpx:p=toL x:=by rw[<-hp,Mc]
   rw[hpx] at h1;rw[hsz,<-Rv,h1,List.drop_append,bR o_,fi,show(toL x).length+1-(toL x).length=1 from o_];rfl
def pline (s:ByteArray):bI×Bool:=if(line8 s).2=true then((line8 s).1,true) else(default,false)
def plOk (k:Int) (t:ByteArray):Bool:=if k=1\/k=5 then decide (t.size<=60) else isName t
def To {k:Int} {t:ByteArray} (h:k=1\/k=5):plOk k t=decide (t.size<=60):=by unfold plOk;rw[I_ h]
def SJ {k:Int} {t:ByteArray} (h:¬ (k=1\/k=5)):plOk k t=isName t:=by unfold plOk;rw[J_ h]
def plineL (c:ByteArray×ByteArray×Bool):List ByteArray->Int->bI×Bool
 | [],_=>(default,false)
 | x::l,k=>if x=c.1 then(if c.2.2=true/\plOk k c.2.1=true then(⟨k,c.2.1⟩,true) else(default,false)) else plineL c l (k+1)
def TL (s:ByteArray):∀ (l:List ByteArray) (k:Int),(∀ x,x∈l->(32:UInt8)∉toL x)->plineL (Hl 32 s) l k=if(line8L s (l.map λx=>x++⟨#[32]⟩) k).2=true then((line8L s (l.map λx=>x++⟨#[32]⟩) k).1,true) else(default,false)
 | [],k,_=>rfl
 | x::l,k,h=>by
  have hx:=h x cZ;obtain⟨h1,h2⟩:=Z6 (s:=s) hx;have ih:=TL s l (k+1) λy hy=>h y (cJ _ hy)
  rw[plineL,bZ,line8L];by_cases hc:(Hl 32 s).2.2=true/\(Hl 32 s).1=x
  ·rw[I_ hc.2.symm,I_ (h1.2 hc),<-h2 hc];have hl:(Hl 32 s).2.1.size=s.size-(x++⟨#[32]⟩).size:=by rw[h2 hc,cH];have:=(h1.2 hc).1;omega
   dsimp only;have hb:(if k=1\/k=5 then decide (s.size-(x++⟨#[32]⟩).size<=60) else isName (Hl 32 s).2.1)=plOk k (Hl 32 s).2.1:=by unfold plOk;rw[hl]
   rw[hb];by_cases hk:plOk k (Hl 32 s).2.1=true
   ·rw[I_ ⟨hc.1,hk⟩,I_ hk]
   ·rw[J_ λq=>hk q.2,J_ hk]
  ·rw[J_ λq=>hc (h1.1 q)];by_cases hw:x=(Hl 32 s).1
   ·rw[I_ hw,J_ λq=>hc ⟨q.1,hw.symm⟩];have hno:(Hl 32 s).2.2=false:=by
     cases hb:(Hl 32 s).2.2 with
     | false=>rfl
     | true=>exact absurd ⟨hb,hw.symm⟩ hc
    have hall:∀ (l:List ByteArray) (k:Int),(∀ x,x∈l->(32:UInt8)∉toL x)->(line8L s (l.map λx=>x++⟨#[32]⟩) k).2=false:=by
     intro l
     induction l with
     | nil=>intro k _;rfl
     | cons y l ih=>
      intro k hy;rw[bZ,line8L,J_]
      ·exact ih _ λz hz=>hy z (cJ _ hz)
      ·intro q;have:=((Z6 (s:=s) (hy y cZ)).1.1 q).1;rw[hno] at this;cases this
    rw[J_ (by rw[hall l _ λy hy=>h y (cJ _ hy)];decide)]
   ·rw[J_ hw];exact ih
def AcA (s:ByteArray):plineL (Hl 32 s) (opWords.drop 1) 1=pline s:=by
 rw[TL s _ _ (by decide)];rfl
def Zr {c:ByteArray×ByteArray×Bool} {i:Nat} {k:Int} (h:i<opWords.length):plineL c (opWords.drop i) k=if opWords.getD i default=c.1 then(if c.2.2=true/\plOk k c.2.1=true then(⟨k,c.2.1⟩,true) else(default,false)) else plineL c (opWords.drop (i+1)) (k+1):=by rw[HO h];rfl
def Yp {c:ByteArray×ByteArray×Bool} {i:Nat} {k:Int} (h:opWords.length<=i):plineL c (opWords.drop i) k=(default,false):=by rw[bR h];rfl
def Oa:opWords.length=6:=rfl
abbrev Wa:Fct:=⟨[.v (.el .str)],[.el .line,.el .bool],λ(x:K_)=>x.1.size<=4200000000,λ(x:K_)=>((pline x.1).1,(pline x.1).2,())⟩
abbrev EI (s:ByteArray):LInv:=⟨[⟨.s,7,true,.el .int⟩,⟨.b,2,true,.el .line⟩],λ(z x:dP)=>(1<=x.1/\x.1<=6/\plineL (Hl 32 s) (opWords.drop x.1.toNat) x.1=pline s)/\x.2.1=z.2.1,λ(x:dP)=>(6-x.1).toNat⟩
def AmO:=Am6.a Wa<|Fct.p (KP [0,2,3,4,5,6,7,8] [16,22,47]) (λ⟨s,_⟩=>lv [(3,EI s)]) Am6.2 func375 (by
 rintro⟨(s:ByteArray),_⟩ hp;refine ho (let H_:Out:=.lf Wa (default,false,());.cl Ab5 (s,(⟨#[32]⟩:ByteArray),()) λz2=>let M_:=decide ((z2.2.1.size:Int)>60);lpx (EI s) ((1:Int),(default,())) λ(y2:dP) bk2=>let L_:Out:=.lf Wa (⟨y2.1,z2.2.1⟩,true,());let E_:Out:=.cl Bv (z2.2.1,()) λz4=>.br (!z4.1) H_ L_;let Q_:Out:=.br (!y2.1==5) E_ L_;.br (decide (y2.1<=5)) (.cl QI (y2.1,()) λz3=>.br (!z3.1.toList==z2.1.toList) (.re (Value.string s)<|.re (Value.string z2.1)<|.re (Value.string z2.2.1)<|.re (Value.bool z2.2.2.1)<|.bk (bk2 (w1 y2.1,(y2.2.1,())))) (.br (y2.1==1) (.br (!z2.2.2.1) H_ (.br M_ H_ (.br (!true) E_ L_))) (.br (!z2.2.2.1) H_ (.br (y2.1==5) (.br M_ H_ Q_) Q_)))) H_) ?_;refine Ae ?_ λ_=>(Am ?_ λ(y2:dP) i2=>Aa (λh3=>Ae trivial λ_=>Aa (λh4=>Ai<|Ai<|Ai<|Ai<|AR ?_) λh4=>Aa (λh6=>Aa (λh7=>lfY ?_) λh7=>Aa (λh8=>lfY ?_) λh8=>Aa (λh9=>Ae ?_ λ_=>Aa (λh11=>lfY ?_) λh11=>lfY ?_) λh9=>lfY ?_) λh6=>Aa (λh12=>lfY ?_) λh12=>Aa (λh13=>Aa (λh14=>lfY ?_) λh14=>Aa (λh15=>Ae ?_ λ_=>Aa (λh17=>lfY ?_) λh17=>lfY ?_) λh15=>lfY ?_) λh13=>Aa (λh18=>Ae ?_ λ_=>Aa (λh20=>lfY ?_) λh20=>lfY ?_) λh18=>lfY ?_) λh3=>lfY ?_)<;>(try simp only[Kj] at *)<;>(try simp only[Ab5,std,Nat.reduceAdd] at *)<;>(try simp only[show(#[32]:Array UInt8).getD 0 0=32 from rfl] at *)<;>(first|trivial|omega|exact⟨o_,o_,AcA s⟩|(obtain⟨⟨a1,a2,a3⟩,e1⟩:=i2))<;>have hcs:=Uy 32 s<;>generalize Hl 32 s=c at *<;>(first|omega|skip)<;>(first|(have e:=Zr (c:=c) (i:=y2.1.toNat) (k:=y2.1) (by rw[Oa];omega);rw[a3,<-AeC o_ o_] at e;first|rw[I_ ‹_›] at e|rw[J_ ‹_›] at e)|(have e:=Yp (c:=c) (i:=y2.1.toNat) (k:=y2.1) (by rw[Oa];omega);rw[a3] at e))<;>(first|(rw[e];exact⟨rfl,rfl⟩)|(rw[Ah o_,show(y2.1+1).toNat=y2.1.toNat+1 from o_];exact⟨⟨⟨o_,o_,e.symm⟩,e1⟩,o_⟩)|skip)<;>(first|(rw[I_ ⟨‹_›,by first|(rw[To o_];exact ee o_)|(rw[SJ o_];assumption)⟩] at e;rw[e];exact⟨rfl,rfl⟩)|(rw[J_ (by rintro⟨q1,q2⟩;first|exact tf q1 ‹_›|(rw[To o_] at q2;have:=fx q2;omega)|(rw[SJ o_] at q2;exact tf q2 ‹_›))] at e;rw[e];exact⟨rfl,rfl⟩)|skip))
def AdU {s:ByteArray} (h:(pline s).2=true):pline s=((line8 s).1,true)/\(line8 s).2=true:=by
 unfold pline at h ⊢;split at h
 ·rename_i hc;rw[I_ hc];exact⟨rfl,hc⟩
 ·cases h
def Ach {s:ByteArray} (h:(pline s).2=false):(line8 s).2=false:=by
 unfold pline at h;split at h
 ·cases h
 ·rename_i hc;simpa using hc
abbrev CD (s:ByteArray):LInv:=⟨[⟨.s,4,true,.sl .line⟩,⟨.s,16,true,.el .int⟩,⟨.s,14,true,.sl .str⟩],λ(z x:cT)=>(0<=x.2.1/\x.2.1<=(spl 59 s).length/\(spl 59 s).length<1000000000000/\x.1=lines8 ((spl 59 s).take x.2.1.toNat)/\allOk8 ((spl 59 s).take x.2.1.toNat)=true/\x.2.1<=6)/\x.2.2.1=z.2.2.1,λ(x:cT)=>(spl 59 s).length-x.2.1.toNat⟩
def Am0:=AmO.a Be<|Fct.p (KP [0,2,3,4,6,7,8,14,15,16] [10,17,31]) (λ⟨s,_⟩=>lv [(5,CD s)]) AmO.2 func313 (by
 rintro⟨(s:ByteArray),_⟩ hp;refine ho (.br (s.toList==(⟨#[]⟩:ByteArray).toList) (.lf Be ([],true,())) (.cl Hy (s,(⟨#[59]⟩:ByteArray),()) λz2=>lpx (CD s) ([],((0:Int),(z2.1,()))) λ(y3:cT) bk3=>.br (decide (y3.2.1<(z2.1.length:Int))) (.ix y3.2.1 y3.2.2.1.length<|.cl Wa (y3.2.2.1.getD y3.2.1.toNat default,()) λz3=>.br (!z3.2.1) (.lf Be ([],false,())) (.br ((y3.1.length:Int)==6) (.lf Be ([],false,())) (.ap (y3.1.length+[z3.1].length) 24<|.re (Value.string s)<|.re (Value.int IntKind.i64 (z2.1.length:Int))<|.bk (bk3 (y3.1++[z3.1],(w1 y3.2.1,(y3.2.2.1,()))))))) (.lf Be (y3.1,true,())))) ?_;refine Aa (λh1=>lfY ?_) λh1=>Ae ?_ λ_=>Am ?_ λ(y3:cT) i3=>Aa (λh4=>Ei ?_ λo5 o6=>Ae ?_ λ_=>Aa (λh8=>lfY ?_) λh8=>Aa (λh9=>lfY ?_) λh9=>Ed ?_ λ_=>Ai<|Ai<|AR ?_) λh4=>lfY ?_;all_goals
  have hp1:s.size<=4200000000:=hp;have hk:=DU 59 s;have hm:∀ i,i<(spl 59 s).length->((spl 59 s).getD i default).size<=s.size:=λi h=>KX (AH h)
  try simp only[Kj] at *
  try simp only[Hy,std,Nat.reduceAdd] at *
  try simp only[show(#[59]:Array UInt8).getD 0 0=59 from rfl] at *
 all_goals (first|trivial|omega|(unfold parseScript;rw[I_ ‹_›];exact⟨rfl,rfl⟩)|exact⟨o_,o_,o_,rfl,rfl,o_⟩|(obtain⟨⟨a1,a2,a3,a4,a5,a6⟩,e1⟩:=i3;simp only[e1] at *))<;>(try have hl:y3.1.length=y3.2.1.toNat:=by rw[a4,lines8,eh,bS];omega)<;>(first|trivial|omega|(have:=hm y3.2.1.toNat o_;omega)|skip)<;>(first|(unfold parseScript;rw[J_ ‹_›,J_ (by rintro⟨q1,q2⟩;first|omega|(rw[SV (i:=y3.2.1.toNat) o_ (Ach ‹_›)] at q2;cases q2))];exact⟨rfl,rfl⟩)|skip)<;>(first|(rw[ct (l:=spl 59 s) (i:=y3.2.1.toNat) o_] at a4 a5;unfold parseScript;rw[J_ ‹_›,I_ (by exact⟨o_,a5⟩)];exact⟨a4,rfl⟩)|skip)<;>(obtain⟨e,ho⟩:=AdU (s:=(spl 59 s).getD y3.2.1.toNat default) ‹_›;have e2:=OY (l:=spl 59 s) (i:=y3.2.1.toNat) o_;rw[Ah o_,show(y3.2.1+1).toNat=y3.2.1.toNat+1 from o_,e];simp only[and_true];exact⟨⟨o_,o_,o_,by rw[e2.1,a4],by rw[e2.2,a5,ho];rfl,o_⟩,o_⟩))
def hasPre (s p:ByteArray):Bool:=decide (p.size<=s.size/\s.extract 0 p.size=p)
abbrev Sb:Fct:=⟨[.v (.el .str),.v (.el .str)],[.el .bool],λ(x:cA)=>x.1.size<=1000000000000/\x.2.1.size<=1000000000000,λ(x:cA)=>(hasPre x.1 x.2.1,())⟩
def AmW:=Am0.a Sb<|Fct.o [0,1,4] Am0.2 func410 (by
 rintro⟨(s:ByteArray),(p:ByteArray),_⟩ hp;exact hg (.br (decide ((↑(ByteArray.size s):Int)>=(↑(ByteArray.size p):Int))) (.ob ((0:Int)<=(↑(ByteArray.size p):Int)/\(↑(ByteArray.size p):Int)<=(↑(ByteArray.size s):Int))<|.lf Sb ((ByteArray.extract s 0 (↑(ByteArray.size p):Int).toNat).toList==ByteArray.toList p,())) (.lf Sb (false,()))) (@hasPre.eq_1))
def cutPre (s p:ByteArray):ByteArray×Bool:=if hasPre s p=true then(s.extract p.size s.size,true) else(s,false)
abbrev JG:Fct:=⟨[.v (.el .str),.v (.el .str)],[.el .str,.el .bool],λ(x:cA)=>x.1.size<=1000000000000/\x.2.1.size<=1000000000000,λ(x:cA)=>((cutPre x.1 x.2.1).1,(cutPre x.1 x.2.1).2,())⟩
def AkF:=AmW.a JG<|Fct.o (KP [0,1,4,5] [9]) AmW.2 func371 (by
 rintro⟨(s:ByteArray),(p:ByteArray),_⟩ hp;exact hg (.cl Sb (s,p,()) λz2=>.br (!z2.1) (.lf JG (s,false,())) (.ob ((0:Int)<=(↑(ByteArray.size p):Int)/\(↑(ByteArray.size p):Int)<=(↑(ByteArray.size s):Int))<|.lf JG (ByteArray.extract s (↑(ByteArray.size p):Int).toNat (ByteArray.size s),true,()))) (an_ @cutPre.eq_1<|(λh=>(fx h).1:hasPre s p=true->p.size<=s.size)))
def AmS:=AkF.a JG<|Fct.o [0,1,4,5] AkF.2 func309 (by
 rintro⟨(s:ByteArray),(p:ByteArray),_⟩ hp;exact hq (.cl JG (s,p,()) λz2=>.lf JG (z2.1,z2.2.1,())))
def XB (w:ByteArray):cutPre w impW=if hasImp w then(w.extract 7 w.size,true) else(w,false):=by
 unfold cutPre hasPre;by_cases h:hasImp w
 ·rw[I_ h,ee (show impW.size<=w.size/\w.extract 0 impW.size=impW from h),I_ rfl];rfl
 ·rw[J_ h,decide_eq_false (show ¬ (impW.size<=w.size/\w.extract 0 impW.size=impW) from h),J_ (by decide)]
def AbI:∀ l:List ByteArray,MF l ⟨#[59]⟩=gl59 l
 | []=>rfl
 | [w]=>by show ofL (toL w)=w;exact Cg w
 | w::x::l=>by have ih:=AbI (x::l);unfold MF at ih ⊢;rw[gl59,<-ih];show ofL (toL w++[59]++RT [59] ((x::l).map toL))=_;rw[J0,J0,Cg];rfl
def Ahn:∀ l:List ByteArray,(gl59 l).size<=szL Af l
 | []=>aa _
 | [w]=>by rw[Ag];show w.size<=w.size+1+0;omega
 | w::x::l=>by have ih:=Ahn (x::l);rw[gl59,Ag,aQ,aQ];have h1:ByteArray.size ⟨#[59]⟩=1:=rfl;simp only[Af] at *;omega
def Y6 {α:Type} [Inhabited α] (f:α->Nat) {l:List α} (h:0<l.length):szL f l=f (l.getD 0 default)+1+szL f (l.drop 1):=by
 have:=O1 f h;rw[dt] at this;exact this
def pmInv (s b:ByteArray) (ps:List ByteArray) (im:List D_):Prop:=pmGo b ps im=parseModule s b/\szL Af ps+im.length<=s.size+1
def Af6 (s b:ByteArray):pmInv s b (spl 59 s) []:=⟨rfl,by rw[OO];exact aa _⟩
def Acm {s b:ByteArray} {ps:List ByteArray} {im:List D_} (h:pmInv s b ps im) (h0:0<ps.length) (hi:hasImp (ps.getD 0 default)) (ha:(parseAddr ((ps.getD 0 default).extract 7 (ps.getD 0 default).size) b).2=true):pmInv s b (ps.drop 1) (im++[(parseAddr ((ps.getD 0 default).extract 7 (ps.getD 0 default).size) b).1]):=by
 obtain⟨h1,h2⟩:=h;have e:ps=ps.getD 0 default::ps.drop 1:=by have:=HO (l:=ps) (i:=0) h0;rw[dt] at this;exact this
 rw[Y6 Af h0] at h2;rw[e,pmGo,I_ hi,I_ ha] at h1;exact⟨h1,by rw[al,ed];omega⟩
def YC {s b:ByteArray} {ps:List ByteArray} {im:List D_} (h:pmInv s b ps im) (h0:0<ps.length) (hi:hasImp (ps.getD 0 default)) (ha:(parseAddr ((ps.getD 0 default).extract 7 (ps.getD 0 default).size) b).2=false):parseModule s b=([],[],false):=by
 have e:ps=ps.getD 0 default::ps.drop 1:=by have:=HO (l:=ps) (i:=0) h0;rw[dt] at this;exact this
 rw[<-h.1,e,pmGo,I_ hi,J_ (by rw[ha];decide)]
def AbB {s b:ByteArray} {ps:List ByteArray} {im:List D_} (h:pmInv s b ps im) (h0:ps.length=0\/¬ hasImp (ps.getD 0 default)):parseModule s b=if(parseScript (gl59 ps)).2=true then(im,(parseScript (gl59 ps)).1,true) else([],[],false):=by
 rw[<-h.1];cases ps with
 | nil=>rw[pmGo];show _=if(parseScript ⟨#[]⟩).2=true then _ else _;rw[N0,I_ rfl];show _=(im,(parseScript ⟨#[]⟩).1,true);rw[N0]
 | cons w l=>
  rcases h0 with h0|h0
  ·cases h0
  ·rw[pmGo,J_ (show ¬ hasImp w from h0)]
def Ad1:(⟨#[105,109,112,111,114,116,32]⟩:ByteArray)=impW:=rfl
abbrev CA (s:ByteArray) (b:ByteArray):LInv:=⟨[⟨.s,7,true,.sl .str⟩,⟨.s,8,true,.sl .addr⟩],λ_ (x:dQ)=>pmInv s b x.1 x.2.1,λ(x:dQ)=>x.1.length⟩
def Aj3:=AmS.a BK<|Fct.p (KP [0,1,4,5,6,7,8,9,10,11,12,13,14] [20,29,37,53]) (λ⟨s,b,_⟩=>lv [(3,CA s b)]) AmS.2 func227 (by
 rintro⟨(s:ByteArray),(b:ByteArray),_⟩ hp;refine ho (let M_:=(⟨#[59]⟩:ByteArray);let L_:Out:=.lf BK ([],[],false,());.cl Hy (s,M_,()) λz2=>lpx (CA s b) (z2.1,([],())) λ(y2:dQ) bk2=>let H_:=(y2.1.length:Int);let E_:Out:=.cl RL (y2.1,M_,()) λz4=>.cl Be (z4.1,()) λz5=>.br (!z5.2.1) L_ (.lf BK (y2.2.1,z5.1,true,()));.br (decide (H_>0)) (.ob ((0:Int)<=(0:Int)/\(0:Int)<H_)<|.ob (0<y2.1.length)<|.cl JG (y2.1.getD 0 default,(⟨#[105,109,112,111,114,116,32]⟩:ByteArray),()) λz3=>.br (!z3.2.1) E_ (.cl AK (z3.1,b,()) λz6=>.br (!z6.2.1) L_ (.ap (y2.2.1.length+[z6.1].length) 32<|.ob ((0:Int)<=(1:Int)/\(1:Int)<=H_)<|.ob (1+(y2.1.length-1)<=y2.1.length)<|.re (Value.string s)<|.re (Value.string b)<|.bk (bk2 (cut y2.1 1 (y2.1.length-1),(y2.2.1++[z6.1],())))))) E_) ?_;refine Ae ?_ λ_=>(Am ?_ λ(y2:dQ) i2=>Aa (λh3=>Ab ?_ λ_=>Ab ?_ λ_=>Ae ?_ λ_=>Aa (λh7=>Ae ?_ λ_=>Ae ?_ λ_=>Aa (λh10=>lfY ?_) λh10=>lfY ?_) λh7=>Ae ?_ λ_=>Aa (λh12=>lfY ?_) λh12=>Ed ?_ λ_=>Ab ?_ λ_=>Ab ?_ λ_=>Ai<|Ai<|AR ?_) λh3=>Ae ?_ λ_=>Ae ?_ λ_=>Aa (λh19=>lfY ?_) λh19=>lfY ?_)<;>(have hp1:s.size<=4000000000/\b.size<=4000000000:=hp;try simp only[RL,Hy,std,Nat.reduceAdd] at *)<;>(first|trivial|omega|skip)<;>(try simp only[show(#[59]:Array UInt8).getD 0 0=59 from rfl,Ad1,AbI,K7,XB] at *)<;>(first|omega|exact Af6 s b|(have hz:=i2.2;have hgl:=Ahn y2.1;have hlen:=Ac Af y2.1))<;>(try have hw:=C6 Af (l:=y2.1) (i:=0) o_;simp only[Af] at hw)<;>by_cases hi:hasImp (y2.1.getD 0 default)<;>(first|simp only[I_ hi,reduceCtorEq] at * | simp only[J_ hi,reduceCtorEq] at * | skip)<;>(try contradiction)<;>(try have hxx:((y2.1.getD 0 default).extract 7 (y2.1.getD 0 default).size).size<=4000000000:=by(rw[cH];omega))<;>(first|omega|exact⟨o_,o_⟩|exact⟨o_,by decide⟩|skip)<;>(first|(rw[YC i2 o_ hi ‹_›];exact⟨rfl,rfl,rfl⟩)|(rw[AbB i2 (by first|exact .inl o_|exact .inr hi)];(first|rw[I_ ‹_›]|rw[J_ (by intro q;exact tf q ‹_›)]);exact⟨rfl,by first|rfl|assumption,rfl⟩)|exact⟨Acm i2 o_ hi ‹_›,by rw[dn];omega⟩))
def NH {p:C_} {a:D_} (h:0<=findMod p.bh a) (h1:(p.bh.getD (findMod p.bh a).toNat default).done=true) (h2:(p.bh.getD (findMod p.bh a).toNat default).code=1):imports p a=((parseModule (p.bh.getD (findMod p.bh a).toNat default).body a.host).1,(parseModule (p.bh.getD (findMod p.bh a).toNat default).body a.host).2.2):=by
 unfold imports;rw[J_];rintro(q|q|q)
 ·omega
 ·exact tf h1 q
 ·exact q h2
def MY {p:C_} {a:D_} (h:0<=findMod p.bh a) (h1:(p.bh.getD (findMod p.bh a).toNat default).done=true) (h2:(p.bh.getD (findMod p.bh a).toNat default).code=1):(parseModule (p.bh.getD (findMod p.bh a).toNat default).body a.host).1=(imports p a).1:=by rw[NH h h1 h2]
def Mo {p:C_} {a:D_} (h:findMod p.bh a<0\/(p.bh.getD (findMod p.bh a).toNat default).done=false\/¬ (p.bh.getD (findMod p.bh a).toNat default).code=1):imports p a=([],false):=by unfold imports;rw[I_ h]
def YG {p:C_} {a:D_} {s o:List D_} (h:inL s a=false) (hi:(imports p a).1=[]):visit p a (s,o)=(s++[a],o++[a]):=by
 rw[Vs (st:=(s,o)) h,hi];rfl
abbrev IE:GS:=⟨[.l (.v (.el .page)),.l (.v (.el .addr)),.b (.sl .addr),.b (.sl .addr)],[],λ(x:dh)=>okVis x.1 x.2.1 x.2.2.1 x.2.2.2.1,λ(x:dh)=>((()),((visit x.1 x.2.1 (x.2.2.1,x.2.2.2.1)).1,(visit x.1 x.2.1 (x.2.2.1,x.2.2.2.1)).2,()))⟩
abbrev B4 (p:C_) (a:D_) (s:(List D_)) (o:(List D_)):LInv:=⟨[⟨.s,64,true,.el .int⟩,⟨.b,2,true,.sl .addr⟩,⟨.b,3,true,.sl .addr⟩,⟨.b,4,false,.el .page⟩,⟨.b,5,true,.el .addr⟩,⟨.s,62,true,.sl .addr⟩],λ(z x:dR)=>(((visInv p a s o x.2.1 x.2.2.1 x.1)/\x.2.2.2.1=z.2.2.2.1)/\x.2.2.2.2.1=z.2.2.2.2.1)/\x.2.2.2.2.2.1=z.2.2.2.2.2.1,λ(x:dR)=>(imports p a).1.length-x.1.toNat⟩
def AlI:=Aj3.G IE<|GS.ofRec (S:=IE) (L:=λ⟨p,a,s,o,_⟩=>λ|7=>some (B4 p a s o)|_=>none) (kp:=[2,3,4,5,8,9,13,18,48,62,63,64,65,1000018,1000048,1000065]) mVis Aj3.2 func383 k_ k_ (by
 intro n0;rintro⟨(p:C_),(a:D_),(s:List D_),(o:List D_),_⟩ hp hm;refine ho (let E_:Out:=.ap (o.length+[a].length) 32<|GS.out IE ((()),(s++[a],o++[a],()));.cl GJ (s,a,()) λz2=>.br (z2.1) (GS.out IE ((()),(s,o,()))) (.ap (s.length+[a].length) 32<|.cl G9 (p,a,()) λ(z3:B_)=>let L_:=inB z3.1 p.bh.length;let H_:=p.bh.getD z3.1.toNat default;.br (decide (z3.1>=0)) (.ob L_<|.br (H_.done) (.ob L_<|.br (H_.code==1) (.ob L_<|.cl BK (H_.body,a.host,()) λz4=>let M_:=(z4.1.length:Int);lpx (B4 p a s o) ((0:Int),(s++[a],(o,(p,(a,(z4.1,())))))) λ(y12:dR) bk12=>.br (decide (y12.1<M_)) (.ix y12.1 y12.2.2.2.2.2.1.length<|.ob (IE.pre (y12.2.2.2.1,y12.2.2.2.2.2.1.getD y12.1.toNat default,y12.2.1,y12.2.2.1,())/\mVis (y12.2.2.2.1,y12.2.2.2.2.2.1.getD y12.1.toNat default,y12.2.1,y12.2.2.1,())<n0)<|.lt _ (IE.fn (y12.2.2.2.1,y12.2.2.2.2.2.1.getD y12.1.toNat default,y12.2.1,y12.2.2.1,())) λz5=>.re (Value.int IntKind.i64 z3.1)<|.re (Value.int IntKind.i64 M_)<|.bk (bk12 (w1 y12.1,(z5.2.1,(z5.2.2.1,(y12.2.2.2.1,(y12.2.2.2.2.1,(y12.2.2.2.2.2.1,())))))))) (.ap (y12.2.2.1.length+[y12.2.2.2.2.1].length) 32<|GS.out IE ((()),(y12.2.1,y12.2.2.1++[y12.2.2.2.2.1],())))) E_) E_) E_)) ?_;repeat' (guard_target =~ Out.holds _ _;first|refine Am (li:=B4 p a s o) ?_ λ(y12:dR) i12=>?_|refine GS.leafY ?_|refine Aa (λ_=>?_) λ_=>?_|refine Ae ?_ λ_=>?_|refine Ab ?_ λ_=>?_|refine DS ?_|refine AR ?_|refine Ai ?_|refine Ed ?_ λ_=>?_|refine Ei ?_ λ_ _=>?_)
 all_goals have hq:okVis p a s o:=hp<;>obtain⟨p1,p2,p3,p4,p5⟩:=(show okVis p a s o from hp)<;>(have hsl:s.length<=100000000000:=by(simp only[totV] at p4;omega))<;>(have hil:=KJ a p2;have hfm:=BJ p.bh a;try simp only[Kj] at *)<;>(try simp only[std,Nat.reduceAdd,Kl,RY] at *)<;>(first|trivial|omega|skip)<;>(first|(rw[S4 ‹_›];exact⟨rfl,rfl⟩)|exact⟨p2 _ o_,p3⟩|skip)<;>(first|(have hI1:=MY (p:=p) (a:=a) o_ ‹_› ‹_›)|(have hI2:(imports p a).1=[]:=by rw[Mo (by first|exact .inl o_|exact .inr (.inl ‹_›)|exact .inr (.inr ‹_›))]))<;>(first|(rw[YG ‹_› hI2];exact⟨rfl,rfl⟩)|exact VT p a s o p5|(obtain⟨⟨⟨i1,e1⟩,e2⟩,e3⟩:=i12;simp only[e1,e2,e3,hI1] at *))<;>(have i2:=i1.1;have i3:=Qo i1 hq)<;>(first|trivial|omega|exact⟨i2,‹_›⟩|skip)<;>(first|exact⟨(Kd i1 ‹_› ‹_› hq).1,eC (Kd i1 ‹_› ‹_› hq).2 (Nat.le_of_lt_succ hm)⟩|(rw[Ah o_];simp only[and_true];exact⟨Tt i1 ‹_›,o_⟩)|(rw[<-Qp i1 o_ ‹_›];exact⟨rfl,rfl⟩)))
def Akb:=AlI.a GD<|Fct.o [2,3,4,5,6] AlI.2 func318 (by
 rintro⟨(p:C_),(a:D_),_⟩ hp;refine ho (.ob (IE.pre (p,a,[],[],()))<|.lt _ (IE.fn (p,a,[],[],())) λz2=>.lf GD (z2.2.2.1,())) ?_;refine Ab ?_ λ_=>DS (lfY ?_)<;>(try simp only[std,Nat.reduceAdd] at *)<;>(first|assumption|rfl|skip))
abbrev CX (p:C_) (a:D_):LInv:=⟨[⟨.s,12,true,.el .int⟩,⟨.b,2,false,.el .page⟩,⟨.s,10,true,.sl .addr⟩],λ(z x:av)=>((0<=x.1/\x.1<=(reachOf p a).length/\((reachOf p a).drop x.1.toNat).all (λb=>decide (0<=findMod p.bh b)&&(p.bh.getD (findMod p.bh b).toNat default).done)=graphReady p a)/\x.2.1=z.2.1)/\x.2.2.1=z.2.2.1,λ(x:av)=>(reachOf p a).length-x.1.toNat⟩
def Alw:=Akb.a CO<|Fct.p (KP [2,3,4,6,7,10,11,12] [13,29]) (λ⟨p,a,_⟩=>lv [(2,CX p a)]) Akb.2 func214 (by
 rintro⟨(p:C_),(a:D_),_⟩ hp;refine ho (.cl GD (p,a,()) λz2=>lpx (CX p a) ((0:Int),(p,(z2.1,()))) λ(y2:av) bk2=>.br (decide (y2.1<(z2.1.length:Int))) (.ix y2.1 y2.2.2.1.length<|.cl G9 (y2.2.1,y2.2.2.1.getD y2.1.toNat default,()) λ(z3:B_)=>.br (decide (z3.1<0)) (.lf CO (false,())) (.ob (inB z3.1 y2.2.1.bh.length)<|.br (!(y2.2.1.bh.getD z3.1.toNat default).done) (.lf CO (false,())) (.re (Value.int IntKind.i64 (z2.1.length:Int))<|.bk (bk2 (w1 y2.1,(y2.2.1,(y2.2.2.1,()))))))) (.lf CO (true,()))) ?_;refine Ae ?_ λ_=>(Am ?_ λ(y2:av) i2=>Aa (λh3=>Ei ?_ λo4 o5=>Ae ?_ λ_=>Aa (λh7=>lfY ?_) λh7=>Ab ?_ λ_=>Aa (λh9=>lfY ?_) λh9=>Ai<|AR ?_) λh3=>lfY ?_)<;>obtain⟨p1,p2,p3,p4,p5⟩:=(show okVis p a [] [] from hp)<;>(have hl:=JK (a:=a) p4;try simp only[Kj] at *)<;>(try simp only[std,Nat.reduceAdd,Kl] at *)<;>(first|trivial|omega|exact⟨p1,p2,p3,p4,p5⟩|exact⟨o_,o_,rfl⟩|skip)<;>(obtain⟨⟨⟨i0,i1,i3⟩,e1⟩,e2⟩:=i2;simp only[e1,e2] at *)<;>have hf:=BJ p.bh ((reachOf p a).getD y2.1.toNat default)<;>(first|assumption|omega|skip)<;>(first|(rw[Abc o_] at i3;exact i3)|rw[AeB o_] at i3)<;>(first|(rw[<-i3,decide_eq_false o_];rfl)|(rw[<-i3,ee o_,show Y_.done _=false from ‹_›];rfl)|(rw[ee o_,show Y_.done _=true from ‹_›,Bool.true_and,Bool.true_and] at i3;rw[Ah o_,show(y2.1+1).toNat=y2.1.toNat+1 from o_];simp only[and_true];exact⟨⟨o_,o_,i3⟩,o_⟩)))
abbrev CY (p:C_) (a:D_):LInv:=⟨[⟨.s,15,true,.el .int⟩,⟨.b,2,false,.el .page⟩,⟨.s,13,true,.sl .addr⟩],λ(z x:av)=>((0<=x.1/\x.1<=(reachOf p a).length/\((reachOf p a).drop x.1.toNat).any (λb=>!(imports p b).2)=graphFails p a)/\x.2.1=z.2.1)/\x.2.2.1=z.2.2.1,λ(x:av)=>(reachOf p a).length-x.1.toNat⟩
def AnZ:=Alw.a DT<|Fct.p (KP [2,3,4,6,7,10,13,14,15] [16,41,56]) (λ⟨p,a,_⟩=>lv [(2,CY p a)]) Alw.2 func319 (by
 rintro⟨(p:C_),(a:D_),_⟩ hp;refine ho (let E_:Out:=.lf DT (true,());.cl GD (p,a,()) λz2=>let M_:=(z2.1.length:Int);lpx (CY p a) ((0:Int),(p,(z2.1,()))) λ(y2:av) bk2=>.br (decide (y2.1<M_)) (.ix y2.1 y2.2.2.1.length<|.cl G9 (y2.2.1,y2.2.2.1.getD y2.1.toNat default,()) λ(z3:B_)=>let L_:=inB z3.1 y2.2.1.bh.length;let H_:=y2.2.1.bh.getD z3.1.toNat default;.br (decide (z3.1<0)) E_ (.ob L_<|.br (!H_.done) E_ (.ob L_<|.br (H_.code != 1) E_ (.ob L_<|.cl BK (H_.body,(y2.2.2.1.getD y2.1.toNat default).host,()) λz4=>.br (!z4.2.2.1) E_ (.re (Value.int IntKind.i64 M_)<|.bk (bk2 (w1 y2.1,(y2.2.1,(y2.2.2.1,()))))))))) (.lf DT (false,()))) ?_;refine Ae ?_ λ_=>(Am ?_ λ(y2:av) i2=>Aa (λh3=>Ei ?_ λo4 o5=>Ae ?_ λ_=>Aa (λh7=>lfY ?_) λh7=>Ab ?_ λ_=>Aa (λh9=>lfY ?_) λh9=>Ab ?_ λ_=>Aa (λh11=>lfY ?_) λh11=>Ab ?_ λ_=>Ae ?_ λ_=>Aa (λh14=>lfY ?_) λh14=>Ai<|AR ?_) λh3=>lfY ?_)<;>obtain⟨p1,p2,p3,p4,p5⟩:=(show okVis p a [] [] from hp)<;>(have hl:=JK (a:=a) p4;try simp only[Kj] at *)<;>(try simp only[std,Nat.reduceAdd,Kl] at *)<;>(first|trivial|omega|exact⟨p1,p2,p3,p4,p5⟩|exact⟨o_,o_,rfl⟩|skip)<;>(obtain⟨⟨⟨i0,i1,i3⟩,e1⟩,e2⟩:=i2;simp only[e1,e2] at *)<;>have hf:=BJ p.bh ((reachOf p a).getD y2.1.toNat default)<;>(first|assumption|omega|exact⟨p2 _ o_,J9 (AH o_) p3⟩|skip)<;>(first|(rw[AaT o_] at i3;exact i3)|rw[AeZ o_] at i3)<;>(first|(rw[Mo (by first|exact .inl o_|exact .inr (.inl ‹_›)|exact .inr (.inr ‹_›))] at i3;rw[<-i3];rfl)|(rw[NH o_ ‹_› ‹_›] at i3;first|(rw[<-i3];dsimp only;rw[show Prod.snd (Prod.snd (parseModule _ _))=false from ‹_›];rfl)|(dsimp only at i3;rw[show Prod.snd (Prod.snd (parseModule _ _))=true from ‹_›,Bool.not_true,Bool.false_or] at i3;rw[Ah o_,show(y2.1+1).toNat=y2.1.toNat+1 from o_];simp only[and_true];exact⟨⟨o_,o_,i3⟩,o_⟩))))
open Go.RowKit Go.Lib Go.Sort in
def S0 (w:World):(callFunc 496 #[]).run Tryz.prog w=.ok (.value (.tuple #[])) w:=run_call_mark0 func496 k_ k_ k_ .disable k_ w
open Go.RowKit Go.Lib Go.Sort in
def VR (w:World):(callFunc 498 #[]).run Tryz.prog w=.ok (.value (.tuple #[])) w:=run_call_mark0 func498 k_ k_ k_ .enable k_ w
open Go.RowKit Go.Lib Go.Sort in
def Zb (a:Addr) (w:World):(callFunc 499 #[.pointer (some a)]).run Tryz.prog w=.ok (.value (.tuple #[])) w:=run_call_marked func499 k_ k_ k_ .acquire k_ a w
open Go.RowKit Go.Lib Go.Sort in
def YJ (a:Addr) (w:World):(callFunc 501 #[.pointer (some a)]).run Tryz.prog w=.ok (.value (.tuple #[])) w:=run_call_marked func501 k_ k_ k_ .releaseMerge k_ a w
open Go.RowKit Go.Lib Go.Sort in
def Afh (a:Addr) (x:Value) (u:FrameMode) (w:World) (hc:w.cell? a=some x) (hz:w.frozen? a=false) :
 CallsD Tryz.prog 480 #[.pointer (some a),.bool true] u w λe u' w'=>u'=u/\(e=.returned (.tuple #[])/\w'=w.drew.setCell a (.int .u32 1)):=by
 have hc':w.drew.cell? a=some x:=by go_simp
 have hz':w.drew.frozen? a=false:=by go_simp
 have hst:=run_call_store (P:=Tryz.prog) func490 k_ k_ k_ k_ (k:=.u32) (y:=1) hc' hz'
 go_enter_d func480,Tryz.ntmps480
 go_wp2
 go_region_calls
 all_goals (go_end0;exact⟨rfl,rfl⟩)
open Go.RowKit Go.Lib Go.Sort in
def Adv (a:Addr) (u:FrameMode) (w:World) (hc:w.cell? a=some (.int .i32 1)) (hz:w.frozen? a=false) :
 CallsD Tryz.prog 479 #[.pointer (some a)] u w λe u' w'=>u'=u/\(e=.returned (.tuple #[])/\w'=w.setCell a (.int .i32 0)):=by
 have hd:=S0;have he:=VR;have hr:=YJ;have hadd:=run_call_add (P:=Tryz.prog) func502 k_ k_ k_ .i32 k_ (y:=-1) (s:=0) hc hz (by simp[go_sem];rfl);have hcv:=run_convert_to_unsafe (P:=Tryz.prog) (src:=460) (dst:=374) Tryz.underlying460 Tryz.underlying374 k_ hc
 go_enter_d func479,Tryz.ntmps479
 go_wp2
 try go_end0
 go_wp2
 all_goals (try go_end0)<;>exact⟨rfl,rfl⟩
open Go.RowKit Go.Lib Go.Sort in
def Aie (a:Addr) (w:World) (hc:w.cell? a=some (.int .i32 0)) (hz:w.frozen? a=false) :
 Calls Tryz.prog 478 #[.pointer (some a)] w λe w'=>e=.returned (.tuple #[])/\w'=w.setCell a (.int .i32 1):=by
 have hd:=S0;have he:=VR;have ha:=Zb;have hcas:=run_call_cas_hit (P:=Tryz.prog) func497 k_ k_ k_ .i32 k_ (y:=1) hc hz;have hc':(w.setCell a (.int .i32 1)).cell? a=some (.int .i32 1):=World.cell?_setCell_same w a _ hc;have hcv:=run_convert_to_unsafe (P:=Tryz.prog) (src:=460) (dst:=374) Tryz.underlying460 Tryz.underlying374 k_ hc'
 go_enter func478,Tryz.ntmps478
 go_wp2
 first|go_end0|(simp only[Exit.inBlock,Exit.then];refine bodyPost_ret (results_none rfl _ _ _) rfl ?_)|refine bodyPost_ret (results_none rfl _ _ _) rfl ?_
 go_wp2
 all_goals (try go_end0)<;>exact⟨rfl,rfl⟩
open Go.RowKit Go.Lib Go.Sort in
def Ae8:Tryz.zeroCells429=Array.replicate 256 (.int .u8 0):=k_
open Go.RowKit Go.Lib Go.Sort in
def Aix (w:World):(storeCells ⟨w.heap.size,0,none⟩ Tryz.zeroCells429.toList 0).run Tryz.prog (w.alloc (.cells Tryz.zeroCells429 429))=.ok () (w.alloc (.cells Tryz.zeroCells429 429)):=run_storeCells_new (P:=Tryz.prog) w 429 Tryz.zeroCells429 Tryz.zeroCells429 k_ rfl k_
open Go.RowKit Go.Lib Go.Sort in
def Ag6 (b c cap:Nat) (w:World) (h4:w.cell? ⟨b,4,none⟩=some (.slice (some ⟨c,0,none⟩) 4 cap)) (c0:w.cell? ⟨c,0,none⟩=some (.string ⟨#[91]⟩)) (c1:w.cell? ⟨c,1,none⟩=some (.string ⟨#[60]⟩)) (c2:w.cell? ⟨c,2,none⟩=some (.string ⟨#[93]⟩)) (c3:w.cell? ⟨c,3,none⟩=some (.string ⟨#[62]⟩)) (hbw:b<w.heap.size) (hcw:c<w.heap.size) :
 Calls Tryz.prog 467 #[.pointer (some ⟨b,0,none⟩)] w λe w'=>e=.returned (.iface 430 (.pointer (some ⟨w.heap.size,0,none⟩)))/\∃ r:Array Value,w'=w.alloc (.cells r 429)/\r.size=256/\∀ t:Nat,t<256->r[t]? = some (.int .u8 (if t=91 then 60 else if t=93 then 62 else t)):=by
 have hsc:=Aix w;have hcv:∀ (r:Array Value) (j:Nat),(w.alloc (.cells r 429)).cell? ⟨c,j,none⟩=w.cell? ⟨c,j,none⟩:=λr j=>by rw[World.cell?_alloc_past _ _ _ hcw]
 go_enter func467,Tryz.ntmps467
 go_wp2
 refine wp_loop_rounds 3 ?_;repeat any_goals (rw[rounds_succ];go_wp2)
 go_loopw [61] (λvi wr=>∃ (i:Nat) (r:Array Value),vi=.int .i64 i/\i<=256/\r.size=256/\wr=w.alloc (.cells r 429)/\∀ t:Nat,t<256->r[t]? = some (.int .u8 (if t<i then t else 0))) (λvi _=>257-(RowKit.intOf vi).toNat)
 case atStart=>exact⟨0,Tryz.zeroCells429,rfl,o_,by rw[Ae8];simp,rfl,λt ht=>by rw[Ae8,Array.getElem?_replicate,I_ ht,J_ o_]⟩
 case round=>
  obtain⟨i,r,rfl,hi,hs,rfl,hr⟩:=hrel;by_cases h1:i<256
  ·have hcell:=GI w r 429 i;have hfz:=QP w r 429 i;rw[hr i h1,J_ o_] at hcell;have hR:Hid (∀ t:Nat,t<256->r[t]? = some (.int .u8 (if t<i then t else 0))):=hr;have hx:IntKind.u8.wrap (i:Int)=i:=by simp[IntKind.wrap,IntKind.bits,IntKind.signed];omega
   clear hr
   go_wp2
   case roundEnd=>
    refine⟨⟨i+1,r.setIfInBounds i (.int .u8 i),rfl,h1,by rw[Array.size_setIfInBounds,hs],by first|rfl|(rw[hx];exact T1 _ _ _ _ _),λt ht=>?_⟩,by simp only[RowKit.intOf];omega⟩;rw[V9 o_];by_cases he:t=i
    ·subst he;rw[I_ rfl,I_ o_]
    ·rw[J_ he,hR.out t ht];by_cases h3:t<i
     ·rw[I_ h3,I_ o_]
     ·rw[J_ h3,J_ o_]
  ·have hie:i=256:=o_
   subst hie;have hR:Hid (∀ t:Nat,t<256->r[t]? = some (.int .u8 (if t<256 then t else 0))):=hr;clear hr;have d0:=(hcv r 0).trans c0;have d1:=(hcv r 1).trans c1;have d2:=(hcv r 2).trans c2;have d3:=(hcv r 3).trans c3;have q1:((⟨#[93]⟩:ByteArray)[0]'(by decide)).toNat=93:=rfl;have q2:((⟨#[91]⟩:ByteArray)[0]'(by decide)).toNat=91:=rfl;have q3:((⟨#[62]⟩:ByteArray)[0]'(by decide)).toNat=62:=rfl;have q4:((⟨#[60]⟩:ByteArray)[0]'(by decide)).toNat=60:=rfl;have f1:=QP w r 429 93;have e1:=GI w r 429 93;have s1:=T1 w r 429 93 (.int .u8 62);have f2:=QP w (r.setIfInBounds 93 (.int .u8 62)) 429 91;have e2:=GI w (r.setIfInBounds 93 (.int .u8 62)) 429 91;have s2:=T1 w (r.setIfInBounds 93 (.int .u8 62)) 429 91 (.int .u8 60);rw[hR.out 93 o_,I_ o_] at e1;rw[V9 o_,J_ o_,hR.out 91 o_,I_ o_] at e2;have g0:=(hcv (r.setIfInBounds 93 (.int .u8 62)) 0).trans c0;have g1:=(hcv (r.setIfInBounds 93 (.int .u8 62)) 1).trans c1
   go_wp2
   refine wp_loop_rounds 3 ?_;repeat any_goals (rw[rounds_succ];go_wp2)
   refine bodyPost_ret (results_tmp rfl _ _ _) rfl ?_;refine⟨rfl,_,rfl,by rw[Array.size_setIfInBounds,Array.size_setIfInBounds,hs],λt ht=>?_⟩;rw[V9 (by rw[Array.size_setIfInBounds];omega),V9 o_,hR.out t ht,I_ ht];by_cases h9:t=91
   ·rw[I_ h9,I_ h9]
   ·rw[J_ h9,J_ h9];by_cases h3:t=93
    ·rw[I_ h3,I_ h3]
    ·rw[J_ h3,J_ h3]
open Go.RowKit Go.Lib Go.Sort in
def mrow (r:Array Value):Prop:=r.size=256/\∀ t:Nat,t<256->r[t]? = some (.int .u8 (if t=91 then 60 else if t=93 then 62 else t))
open Go.RowKit in
structure MRep (w:World) (b c cap:Nat):Prop where
 v0:w.cell? ⟨b,0,none⟩=some (.int .u32 0)
 v1:w.cell? ⟨b,1,none⟩=some (.int .i32 0)
 v3:w.cell? ⟨b,3,none⟩=some .nilIface
 v4:w.cell? ⟨b,4,none⟩=some (.slice (some ⟨c,0,none⟩) 4 cap)
 f0:w.frozen? ⟨b,0,none⟩=false
 f1:w.frozen? ⟨b,1,none⟩=false
 f3:w.frozen? ⟨b,3,none⟩=false
 f4:w.frozen? ⟨b,4,none⟩=false
 c0:w.cell? ⟨c,0,none⟩=some (.string ⟨#[91]⟩)
 c1:w.cell? ⟨c,1,none⟩=some (.string ⟨#[60]⟩)
 c2:w.cell? ⟨c,2,none⟩=some (.string ⟨#[93]⟩)
 c3:w.cell? ⟨c,3,none⟩=some (.string ⟨#[62]⟩)
 lb:b<w.heap.size
 lc:c<w.heap.size
 ne:¬ c=b
open Go.RowKit Go.Lib Go.Sort in
def Ahg (b c cap:Nat) (w:World) (h3:∃ x,w.cell? ⟨b,3,none⟩=some x) (h4:w.cell? ⟨b,4,none⟩=some (.slice (some ⟨c,0,none⟩) 4 cap)) (f3:w.frozen? ⟨b,3,none⟩=false) (f4:w.frozen? ⟨b,4,none⟩=false) (c0:w.cell? ⟨c,0,none⟩=some (.string ⟨#[91]⟩)) (c1:w.cell? ⟨c,1,none⟩=some (.string ⟨#[60]⟩)) (c2:w.cell? ⟨c,2,none⟩=some (.string ⟨#[93]⟩)) (c3:w.cell? ⟨c,3,none⟩=some (.string ⟨#[62]⟩)) (hbw:b<w.heap.size) (hcw:c<w.heap.size) :
 Calls Tryz.prog 458 #[.pointer (some ⟨b,0,none⟩)] w λe w'=>e=.returned (.tuple #[])/\∃ r:Array Value,w'=((w.setCell ⟨b,3,none⟩ (.iface 430 (.pointer (some ⟨w.heap.size,0,none⟩)))).setCell ⟨b,4,none⟩ (.slice none 0 0)).alloc (.cells r 429)/\mrow r:=by
 obtain⟨x,h3⟩:=h3;have k3:∀ r,(w.alloc (.cells r 429)).cell? ⟨b,3,none⟩=some x:=λr=>by rw[World.cell?_alloc_past _ _ _ hbw];exact h3
 have k4:∀ r,(w.alloc (.cells r 429)).cell? ⟨b,4,none⟩=some (.slice (some ⟨c,0,none⟩) 4 cap):=λr=>by rw[World.cell?_alloc_past _ _ _ hbw];exact h4
 have g3:∀ r,(w.alloc (.cells r 429)).frozen? ⟨b,3,none⟩=false:=λr=>by rw[World.frozen?_alloc_past _ _ _ hbw];exact f3
 have g4:∀ r,(w.alloc (.cells r 429)).frozen? ⟨b,4,none⟩=false:=λr=>by rw[World.frozen?_alloc_past _ _ _ hbw];exact f4
 go_enter func458,Tryz.ntmps458
 go_wp2_with (go_at_call 467;refine(Ag6 b c cap w h4 c0 c1 c2 c3 hbw hcw).mono ?_;rintro e w' ⟨rfl,r,rfl,hr⟩)
 go_wp2
 try go_end0
 exact⟨rfl,r,rfl,hr⟩
open Go.RowKit Go.Lib Go.Sort in
def mW (w:World) (b:Nat) (r:Array Value):World:=(((((w.setCell ⟨b,1,none⟩ (.int .i32 1)).setCell ⟨b,3,none⟩ (.iface 430 (.pointer (some ⟨w.heap.size,0,none⟩)))).setCell ⟨b,4,none⟩ (.slice none 0 0)).alloc (.cells r 429)).drew.setCell ⟨b,0,none⟩ (.int .u32 1)).setCell ⟨b,1,none⟩ (.int .i32 0)
open Go.RowKit Go.Lib Go.Sort in
def AhG (b c cap:Nat) (w:World) (H:MRep w b c cap) :
 Calls Tryz.prog 466 #[.pointer (some ⟨b,0,none⟩),.func (.func 458) #[.pointer (some ⟨b,0,none⟩)] #[]] w λe w'=>e=.returned (.tuple #[])/\∃ r:Array Value,mrow r/\w'=mW w b r:=by
 obtain⟨v0,v1,v3,v4,f0,f1,f3,f4,c0,c1,c2,c3,lb,lc,ne⟩:=H;have oth:∀ (a:Addr) (v:Value) (d:Addr),d≠a->(w.setCell a v).cell? d=w.cell? d:=λa v d h=>World.cell?_setCell_other _ a d v (λe=>h e.symm)
 have n1:∀ j:Nat,(⟨c,j,none⟩:Addr)≠⟨b,1,none⟩:=λj h=>ne (congrArg Addr.block h)
 have hl:=run_call_load (P:=Tryz.prog) func477 k_ k_ k_ .u32 k_ (w:=w.setCell ⟨b,1,none⟩ (.int .i32 1)) (a:=⟨b,0,none⟩) (x:=0) ((oth _ _ _ (by simp)).trans v0);have hnot:∀ (x:Bool) (w:World),(Op.unary .not (.bool x)).run Tryz.prog w=.ok (.bool (!x)) w:=λ_ _=>rfl
 go_enter_defers func466,Tryz.ntmps466
 have o1:∀ d:Addr,d≠⟨b,1,none⟩->(w.setCell ⟨b,1,none⟩ (.int .i32 1)).cell? d=w.cell? d:=λd h=>oth _ _ d h
 have fz:∀ (v:Value) (d:Addr),(w.setCell ⟨b,1,none⟩ v).frozen? d=w.frozen? d:=λv d=>World.frozen?_setCell _ _ _ _
 go_wp2_with (first
  | (go_at_call 478;refine(Aie ⟨b,1,none⟩ _ (by go_simp) (by go_simp)).mono ?_;rintro e w' ⟨rfl,rfl⟩)
  | (go_at_call 465;go_in))
 refine(Ahg b c cap (w.setCell ⟨b,1,none⟩ (.int .i32 1)) ⟨_,(o1 _ (by simp)).trans v3⟩ ((o1 _ (by simp)).trans v4) ((fz _ _).trans f3) ((fz _ _).trans f4) ((o1 _ (n1 0)).trans c0) ((o1 _ (n1 1)).trans c1) ((o1 _ (n1 2)).trans c2) ((o1 _ (n1 3)).trans c3) (by rw[World.size_setCell];exact lb) (by rw[World.size_setCell];exact lc)).mono ?_;rintro e w' ⟨rfl,r,rfl,hr⟩
 go_wp2
 refine leaves_cons (f:=480) (args := #[.pointer (some ⟨b,0,none⟩),.bool true]) (by simp) (by simp[go_sem]) ?_;refine(Afh ⟨b,0,none⟩ (.int .u32 0) .returning _ ?_ (by rw[World.frozen?_alloc_past _ _ _ (by simpa using lb),World.frozen?_setCell,World.frozen?_setCell,World.frozen?_setCell];exact f0)).mono ?_
 ·rw[World.cell?_alloc_past _ _ _ (by simpa using lb),World.cell?_setCell_other _ _ _ _ (by simp),World.cell?_setCell_other _ _ _ _ (by simp),World.cell?_setCell_other _ _ _ _ (by simp)];exact v0
 rintro e u' w'' ⟨rfl,rfl,rfl⟩;refine leaves_cons (f:=479) (args := #[.pointer (some ⟨b,1,none⟩)]) (by simp[settle]) (by simp[go_sem]) ?_;refine(Adv ⟨b,1,none⟩ _ _ ?_ (by rw[World.frozen?_setCell,World.frozen?_drew,World.frozen?_alloc_past _ _ _ (by simpa using lb),World.frozen?_setCell,World.frozen?_setCell,World.frozen?_setCell];exact f1)).mono ?_
 ·rw[World.cell?_setCell_other _ _ _ _ (by simp),World.cell?_drew,World.cell?_alloc_past _ _ _ (by simpa using lb),World.cell?_setCell_other _ _ _ _ (by simp),World.cell?_setCell_other _ _ _ _ (by simp)];exact World.cell?_setCell_same w _ _ v1
 rintro e u' w'' ⟨rfl,rfl,rfl⟩;simp[Leaves,settle,results,Tryz.results466];exact⟨r,hr,rfl⟩
open Go.RowKit Go.Lib Go.Sort in
def AfL (x:UInt8):((mk8 x).toNat:Int)=(if x.toNat=91 then(60:Int) else if x.toNat=93 then 62 else(x.toNat:Int)):=by
 unfold mk8;by_cases h:x=91
 ·subst h;rfl
 ·have h':¬ x.toNat=91:=λe=>h (UInt8.toNat_inj.1 e)
  rw[J_ h,J_ h'];by_cases h2:x=93
  ·subst h2;rfl
  ·have h3:¬ x.toNat=93:=λe=>h2 (UInt8.toNat_inj.1 e)
   rw[J_ h2,J_ h3]
open Go.RowKit Go.Lib Go.Sort in
def AiR (k:Nat) (s:ByteArray) (hs1:s.size<=1000000000000) (w:World) (hkw:k<w.heap.size) (hk:∀ x:UInt8,w.cell? ⟨k,x.toNat,none⟩=some (.int .u8 (mk8 x).toNat)) :
 Calls Tryz.prog 538 #[.pointer (some ⟨k,0,none⟩),.string s] w λe w'=>e=.returned (.string (markup s))/\(w'=w\/∃ dk,dk.size=s.data.size/\w'=putRow enc8 (bytesWorld w 5 s) w.heap.size 0 dk):=by
 have hcv:=λ(w:World)=>Lib.run_convert_string_bytes w 9 22 5 s Tryz.underlying9 Tryz.underlying22 Tryz.underlying5
 have hH:=OG w 5 s;have hsz:s.data.size=s.size:=rfl;have qT:∀ (w:World) (a:Option Addr) (n c n' c':Nat),(binOp .eql 22 (.slice a n c) (.slice none n' c')).run Tryz.prog w=.ok (.bool a.isNone) w:=λw a n c n' c'=>Lib.run_eql_slice_nil w _ _ a n c n' c' Tryz.underlying22
 go_enter func538,Tryz.ntmps538
 go_wp2
 have hk1:∀ x:UInt8,(bytesWorld w 5 s).cell? ⟨k,x.toNat,none⟩=some (.int .u8 (mk8 x).toNat):=λx=>by rw[<-hk x];simp only[World.cell?,bytesWorld_at_old w 5 s k hkw]
 generalize hW1:bytesWorld w 5 s=W1 at *
 go_loopw [5,6] (λv5 vi wr=>∃ (i:Nat),vi=.int .i64 i/\i<=s.size/\((v5=.slice none 0 0/\wr=w/\∀ t,t<i->s.data[t]! = mk8 s.data[t]!) \/
  (∃ dk:Array UInt8,v5=.slice (some ⟨w.heap.size,0,none⟩) s.size (grownCap w s.size 0 5)/\dk.size=s.data.size/\wr=putRow enc8 W1 w.heap.size 0 dk/\∀ t,t<s.size->dk[t]! = if t<i then mk8 s.data[t]! else s.data[t]!))) (λ_ vi _=>s.size+1-(RowKit.intOf vi).toNat)
 case atStart=>exact⟨0,rfl,o_,.inl ⟨rfl,rfl,λt ht=>o_⟩⟩
 case round=>
  obtain⟨i,rfl,hi,hrel⟩:=hrel;by_cases h1:i<s.size
  ·have hxi:s.data[i]! = s[i]'h1:=by rw[getElem!_pos s.data i h1];rfl
   have hlt:=(s[i]'h1).toNat_lt;rcases hrel with⟨rfl,rfl,hd⟩|⟨dk,rfl,hsk,hw,hd⟩
   ·by_cases hm:mk8 (s[i]'h1)=s[i]'h1
    ·have hne:(((mk8 (s[i]'h1)).toNat:Int) != ((s[i]'h1).toNat:Int))=false:=by rw[hm];simp
     have hD:Hid (∀ t,t<i->s.data[t]! = mk8 s.data[t]!):=hd;clear hd
     go_wp2
     case roundEnd=>
      exact⟨⟨i+1,rfl,h1,.inl ⟨by first|rfl|trivial,by first|rfl|trivial,λt ht=>by
       by_cases e:t=i
       ·subst e;rw[hxi,hm]
       ·exact hD.out t o_⟩⟩,by simp only[RowKit.intOf];omega⟩
     all_goals (exfalso;omega)
    ·have hne:(((mk8 (s[i]'h1)).toNat:Int) != ((s[i]'h1).toNat:Int))=true:=by rw[bne_iff_ne];intro e;exact hm (UInt8.toNat_inj.1 (Int.ofNat.inj e))
     have hfz:=(hH i h1).2;have hcd:=(hH i h1).1;rw[cx] at hfz hcd;have hst:=putRow_set enc8 W1 wr.heap.size 0 s.data i (mk8 (s[i]'h1)) h1;rw[cx,putRow_self _ _ _ _ _ hH] at hst;dsimp only[enc8] at hcd hst;have hD:Hid (∀ t,t<i->s.data[t]! = mk8 s.data[t]!):=hd;have hS:Hid (_=_):=hst;clear hd hst hH
     go_wp2
     case roundEnd=>
      have st:=JY (s:=s) (dk:=s.data) (y:=mk8 (s[i]'h1)) h1 rfl (λt ht=>by
       by_cases e:t<i
       ·rw[I_ e];exact hD.out t e
       ·rw[J_ e]) (by rw[hxi])
      exact⟨⟨i+1,rfl,h1,.inr ⟨s.data.setIfInBounds i (mk8 (s[i]'h1)),by first|rfl|trivial,st.1,hS.out,st.2⟩⟩,by simp only[RowKit.intOf];omega⟩
     all_goals (exfalso;omega)
   ·have hkr:∀ x:UInt8,wr.cell? ⟨k,x.toNat,none⟩=some (.int .u8 (mk8 x).toNat):=λx=>by rw[hw,cell?_putRow_other _ _ _ _ _ _ (.inl (by show k≠w.heap.size;omega))];exact hk1 x
    have hD:Hid (∀ t,t<s.size->dk[t]! = if t<i then mk8 s.data[t]! else s.data[t]!):=hd;have hW:Hid (wr=putRow enc8 W1 w.heap.size 0 dk):=hw;by_cases hm:mk8 (s[i]'h1)=s[i]'h1
    ·have hne:(((mk8 (s[i]'h1)).toNat:Int) != ((s[i]'h1).toNat:Int))=false:=by rw[hm];simp
     clear hd hw hH
     go_wp2
     case roundEnd=>
      exact⟨⟨i+1,rfl,h1,.inr ⟨dk,by first|rfl|trivial,hsk,hW.out,Wi h1 hsk hD.out (by rw[hxi,hm])⟩⟩,by simp only[RowKit.intOf];omega⟩
     all_goals (exfalso;omega)
    ·have hne:(((mk8 (s[i]'h1)).toNat:Int) != ((s[i]'h1).toNat:Int))=true:=by rw[bne_iff_ne];intro e;exact hm (UInt8.toNat_inj.1 (Int.ofNat.inj e))
     have hcd:=cell?_putRow enc8 W1 w.heap.size 0 s.data dk hH hsk i o_;have hfz:wr.frozen? ⟨w.heap.size,0+i,none⟩=false:=by rw[hw,frozen?_putRow];exact(hH i o_).2
     rw[<-hw,cx] at hcd;rw[cx] at hfz;have hst:=putRow_set enc8 W1 w.heap.size 0 dk i (mk8 (s[i]'h1)) o_;rw[cx] at hst;dsimp only[enc8] at hcd hst;have hS:Hid (_=_):=hst;clear hd hw hst hH
     go_wp2
     case roundEnd=>
      have st:=JY (s:=s) (dk:=dk) (y:=mk8 (s[i]'h1)) h1 hsk hD.out (by rw[hxi]);exact⟨⟨i+1,rfl,h1,.inr ⟨dk.setIfInBounds i (mk8 (s[i]'h1)),by first|rfl|trivial,st.1,by rw[hW.out];exact hS.out,st.2⟩⟩,by simp only[RowKit.intOf];omega⟩
     all_goals (exfalso;omega)
  ·have hie:i=s.size:=o_
   subst hie;rcases hrel with⟨rfl,rfl,hd⟩|⟨dk,rfl,hsk,hw,hd⟩
   ·have hfin:Hid (markup s=s):=by
     show markup s=s;unfold markup ofL;have:(toL s).map mk8=toL s:=by
      apply List.ext_getElem (by simp);intro k h2 h3;have hk:k<s.size:=by simpa [Br] using h3
      have:=hd k hk;rw[getElem!_pos s.data k hk] at this;simp[toL,<-this]
     rw[this];exact Cg s
    have hD:Hid _:=hd;clear hd
    go_wp2
    go_ret
    exact⟨by simp[hfin.out],.inl rfl⟩
   ·have hback:=run_convert_bytes_back (P:=Tryz.prog) wr 22 9 5 ⟨w.heap.size,0,none⟩ (grownCap w s.size 0 5) dk.toList Tryz.underlying22 Tryz.underlying5 Tryz.underlying9 (λj hj=>by
     have hj2:j<dk.size:=by simpa using hj
     have:=cell?_putRow enc8 W1 w.heap.size 0 s.data dk hH hsk j hj2;rw[<-hw] at this;rw[Addr.add_lit,this];simp[getElem!_pos dk j hj2])
    have hl:dk.toList.length=s.size:=by simpa using hsk
    rw[hl,hw] at hback;have hfin:markup s=⟨dk.toList.toArray⟩:=by
     unfold markup ofL;congr 2;apply List.ext_getElem (by simp[Br,hl]);intro k h2 h3;have hk:k<s.size:=o_
     have:=hd k hk;rw[I_ hk,getElem!_pos dk k o_,getElem!_pos s.data k hk] at this;simp[toL,this]
    have hfin:Hid _:=hfin;have hw:Hid _:=hw
    go_wp2
    go_ret
    exact⟨by rw[hfin.out];simp,.inr ⟨dk,hsk,by rw[hW1];first|done|exact hw.out⟩⟩
open Go.RowKit Go.Lib Go.Sort in
def AnN (b c cap:Nat) (w:World) (H:MRep w b c cap) :
 Calls Tryz.prog 457 #[.pointer (some ⟨b,0,none⟩),.func (.func 458) #[.pointer (some ⟨b,0,none⟩)] #[]] w λe w'=>e=.returned (.tuple #[])/\∃ r:Array Value,mrow r/\w'=mW w b r:=by
 have h0:=H.v0;have hl:=run_call_load (P:=Tryz.prog) func477 k_ k_ k_ .u32 k_ h0;have hnot:∀ (x:Bool) (w:World),(Op.unary .not (.bool x)).run Tryz.prog w=.ok (.bool (!x)) w:=λ_ _=>rfl
 go_enter func457,Tryz.ntmps457
 go_wp2_with (first|(go_at_call 466;refine(AhG b c cap _ H).mono ?_;rintro e w' ⟨rfl,r,hr,rfl⟩)|(go_at_call 465;go_in))
 try go_end0
 exact⟨rfl,r,hr,rfl⟩
open Go.RowKit Go.Lib Go.Sort in
def Aft (w:World) (b:Nat) (r:Array Value) (lb:b<w.heap.size) (x:Value) (v3:w.cell? ⟨b,3,none⟩=some x):(mW w b r).cell? ⟨b,3,none⟩=some (.iface 430 (.pointer (some ⟨w.heap.size,0,none⟩))):=by
 unfold mW;rw[World.cell?_setCell_other _ _ _ _ (by simp),World.cell?_setCell_other _ _ _ _ (by simp),World.cell?_drew,World.cell?_alloc_past _ _ _ (by simpa using lb),World.cell?_setCell_other _ _ _ _ (by simp)];exact World.cell?_setCell_same _ _ _ ((World.cell?_setCell_other _ _ _ _ (by simp)).trans v3)
open Go.RowKit Go.Lib Go.Sort in
def Aia (w:World) (b:Nat) (r:Array Value) (lb:b<w.heap.size) (t:Nat):(mW w b r).cell? ⟨w.heap.size,t,none⟩=r[t]?:=by
 have nb:∀ j:Nat,(⟨b,j,none⟩:Addr)≠⟨w.heap.size,t,none⟩:=λj h=>by have:=congrArg Addr.block h;simp at this;omega
 unfold mW;rw[World.cell?_setCell_other _ _ _ _ (nb _),World.cell?_setCell_other _ _ _ _ (nb _),World.cell?_drew];have e:=GI (((w.setCell ⟨b,1,none⟩ (.int .i32 1)).setCell ⟨b,3,none⟩ (.iface 430 (.pointer (some ⟨w.heap.size,0,none⟩)))).setCell ⟨b,4,none⟩ (.slice none 0 0)) r 429 t;rw[World.size_setCell,World.size_setCell,World.size_setCell] at e;exact e
open Go.RowKit Go.Lib Go.Sort in
def Aad (w:World) (b:Nat) (r:Array Value):(mW w b r).heap.size=w.heap.size+1:=by
 unfold mW;simp
open Go.RowKit Go.Lib Go.Sort in
def Ab1 (b c cap:Nat) (s:ByteArray) (hs:s.size<=1000000000000) (w:World) (H:MRep w b c cap) :
 Calls Tryz.prog 454 #[.pointer (some ⟨b,0,none⟩),.string s] w λe w'=>e=.returned (.string (markup s))/\∃ r,mrow r/\(w'=mW w b r\/∃ dk,w'=Go.Sort.putRow enc8 (Lib.bytesWorld (mW w b r) 5 s) (mW w b r).heap.size 0 dk):=by
 have hmf:∀ (fn:Fn) (first cap:Array Value) (w:World),(Instr.makeFunc fn first cap).run Tryz.prog w=.ok (.func fn first cap) w:=λ_ _ _ _=>rfl
 have H':Hid (MRep w b c cap):=H;clear H
 go_enter func454,Tryz.ntmps454
 go_wp2_with (first|(go_at_call 457;refine(AnN b c cap _ H'.out).mono ?_;rintro e w' ⟨rfl,r,hr,hw⟩;(have h3:w'.cell? ⟨b,3,none⟩=some (.iface 430 (.pointer (some ⟨w.heap.size,0,none⟩))):=by rw[hw];exact Aft w b r H'.out.lb _ H'.out.v3);(have hW:Hid (w'=mW w b r):=hw);(have hR:Hid (mrow r):=hr);clear hw hr))
 refine(AiR w.heap.size s hs w' (by rw[hW.out,Aad];omega) λx=>by rw[hW.out,Aia _ _ _ H'.out.lb,hR.out.2 _ x.toNat_lt,AfL]).mono ?_;rintro e w'' ⟨rfl,h⟩;have hh:Hid (w''=w'\/∃ dk,dk.size=s.data.size/\w''=Go.Sort.putRow enc8 (Lib.bytesWorld w' 5 s) w'.heap.size 0 dk):=h;clear h
 go_wp2
 go_ret
 refine⟨rfl,r,hR.out,?_⟩;rcases hh.out with h|⟨dk,_,h⟩
 ·exact .inl (h.trans hW.out)
 ·exact .inr ⟨dk,by rw[h,hW.out]⟩
open Go.RowKit Go.Lib Go.Sort in
def mN (w:World) (cap:Nat) (x:Array Value):World :=
 ((w.alloc (.cells (#[.string ⟨#[91]⟩,.string ⟨#[60]⟩,.string ⟨#[93]⟩,.string ⟨#[62]⟩]++x) 9)).alloc (.cells #[.int .u32 0,.int .i32 0,.int .u32 0,.nilIface,.slice (some ⟨w.heap.size,0,none⟩) 4 cap] 402)).drew
open Go.RowKit Go.Lib Go.Sort in
def AiS (a cap:Nat) (w:World) (c0:w.cell? ⟨a,0,none⟩=some (.string ⟨#[91]⟩)) (c1:w.cell? ⟨a,1,none⟩=some (.string ⟨#[60]⟩)) (c2:w.cell? ⟨a,2,none⟩=some (.string ⟨#[93]⟩)) (c3:w.cell? ⟨a,3,none⟩=some (.string ⟨#[62]⟩)) (la:a<w.heap.size) :
 Calls Tryz.prog 453 #[.slice (some ⟨a,0,none⟩) 4 cap] w λe w'=>e=.returned (.pointer (some ⟨w.heap.size+1,0,none⟩))/\∃ cap2 x,w'=mN w cap2 x:=by
 go_enter func453,Tryz.ntmps453
 go_wp2
 go_ret
 exact⟨rfl,_,_,rfl⟩
open Go.RowKit Go.Lib Go.Sort in
def AbY (w:World) (cap:Nat) (x:Array Value):(mN w cap x).heap.size=w.heap.size+2:=by unfold mN;simp
open Go.RowKit Go.Lib Go.Sort in
def Ahh (w:World) (cap:Nat) (x:Array Value):MRep (mN w cap x) (w.heap.size+1) w.heap.size cap:=by
 have hb:∀ j,(mN w cap x).cell? ⟨w.heap.size+1,j,none⟩ = #[Value.int .u32 0,.int .i32 0,.int .u32 0,.nilIface,.slice (some ⟨w.heap.size,0,none⟩) 4 cap][j]?:=λj=>by unfold mN;rw[World.cell?_drew];have e:=GI (w.alloc (.cells (#[.string ⟨#[91]⟩,.string ⟨#[60]⟩,.string ⟨#[93]⟩,.string ⟨#[62]⟩]++x) 9)) #[.int .u32 0,.int .i32 0,.int .u32 0,.nilIface,.slice (some ⟨w.heap.size,0,none⟩) 4 cap] 402 j;rw[World.size_alloc] at e;exact e
 have hf:∀ j,(mN w cap x).frozen? ⟨w.heap.size+1,j,none⟩=false:=λj=>by unfold mN;rw[World.frozen?_drew];have e:=QP (w.alloc (.cells (#[.string ⟨#[91]⟩,.string ⟨#[60]⟩,.string ⟨#[93]⟩,.string ⟨#[62]⟩]++x) 9)) #[.int .u32 0,.int .i32 0,.int .u32 0,.nilIface,.slice (some ⟨w.heap.size,0,none⟩) 4 cap] 402 j;rw[World.size_alloc] at e;exact e
 have hc:∀ j,(mN w cap x).cell? ⟨w.heap.size,j,none⟩=(#[.string ⟨#[91]⟩,.string ⟨#[60]⟩,.string ⟨#[93]⟩,.string ⟨#[62]⟩]++x)[j]?:=λj=>by unfold mN;rw[World.cell?_drew,World.cell?_alloc_past _ _ _ (by rw[World.size_alloc];omega)];exact GI _ _ _ _
 have hl:∀ j (v:Value),#[Value.string ⟨#[91]⟩,.string ⟨#[60]⟩,.string ⟨#[93]⟩,.string ⟨#[62]⟩][j]? = some v->(#[Value.string ⟨#[91]⟩,.string ⟨#[60]⟩,.string ⟨#[93]⟩,.string ⟨#[62]⟩]++x)[j]? = some v:=λj v h=>by rw[Array.getElem?_append_left (by have:=(Array.getElem?_eq_some_iff.1 h).1;exact this)];exact h
 exact⟨hb 0,hb 1,hb 3,hb 4,hf 0,hf 1,hf 3,hf 4,(hc 0).trans (hl 0 _ rfl),(hc 1).trans (hl 1 _ rfl),(hc 2).trans (hl 2 _ rfl),(hc 3).trans (hl 3 _ rfl),by rw[AbY];omega,by rw[AbY];omega,o_⟩
open Go.RowKit Go.Lib Go.Sort in
def Ah1 {w w':World} (h:Neu w w') (cap:Nat) (x:Array Value):Neu w (mN w' cap x):=by
 unfold mN;exact((h.alloc _).alloc _).drew
open Go.RowKit Go.Lib Go.Sort in
def AeQ {w w':World} (h:Neu w w') {b:Nat} (hb:w.heap.size<=b) (r:Array Value):Neu w (mW w' b r):=by
 unfold mW;exact((((((h.set (a:=⟨b,1,none⟩) hb _).set (a:=⟨b,3,none⟩) hb _).set (a:=⟨b,4,none⟩) hb _).alloc _).drew).set (a:=⟨b,0,none⟩) hb _).set (a:=⟨b,1,none⟩) hb _
open Go.RowKit Go.Lib Go.Sort in
def AcR (s:ByteArray) (hs:s.size<=1000000000000) (w:World) :
 Calls Tryz.prog 439 #[.string s] w λe w'=>e=.returned (.string (markup s))/\Neu w w':=by
 go_enter func439,Tryz.ntmps439
 go_wp2_with (fail)
 refine(AiS w.heap.size 4 _ ?_ ?_ ?_ ?_ ?_).mono ?_
 ·rw[GI];rfl
 ·rw[GI];rfl
 ·rw[GI];rfl
 ·rw[GI];rfl
 ·rw[World.size_alloc];omega
 rintro e w' ⟨rfl,cap,x,hw⟩;have hW:Hid _:=hw;have hR:Hid (MRep w' (w.heap.size+2) (w.heap.size+1) cap):=by have:=Ahh (w.alloc (Obj.cells #[.string ⟨#[91]⟩,.string ⟨#[60]⟩,.string ⟨#[93]⟩,.string ⟨#[62]⟩] 9)) cap x;rw[World.size_alloc] at this;rw[hw];exact this
 have hN:Hid (Neu w w'):=by rw[hw];exact Ah1 ((Neu.refl w).alloc _) _ _
 clear hw hW;rw[World.size_alloc]
 go_wp2_with (first|(go_at_call 454;refine(Ab1 _ _ cap s hs w' hR.out).mono ?_;rintro e w2 ⟨rfl,h⟩;(have hH:Hid _:=h);clear h))
 go_ret
 refine⟨rfl,?_⟩;obtain⟨r,_,h|⟨dk,h⟩⟩:=hH.out
 ·rw[h];exact AeQ hN.out o_ _
 ·rw[h];exact((AeQ hN.out o_ _).bytes _ _).put _ (by rw[Aad];have:=hN.out.size;omega) _ _
open Go.RowKit Go.Lib Go.Sort in
def Yb:Ou.ok Tryz.prog 439 :=
 Ur rfl rfl λx hx w ow hB=>AcR x.1 hx w
def AnV:=AnZ.a Ou<|Yb
def Rm:Go.Proofs.LaysC.n172 Tryz.prog laysCmp_r:=by repeat' first|kernel_rfl|constructor|intro _
def nB (n:Lib.NumEnd Nat) (f:Nat->Lib.NumEnd Nat):Lib.NumEnd Nat:=match n with
 | .ok u=>f u
 | e=>e
def Afb:∀ (l r:List UInt8) (acc:Nat),Lib.parseUint10 acc (l++r)=nB (Lib.parseUint10 acc l) λu=>Lib.parseUint10 u r
 | [],r,acc=>rfl
 | c::l,r,acc=>by
  rw[dp,Lib.parseUint10,Lib.parseUint10];split
  ·split
   ·rfl
   ·split
    ·rfl
    ·exact Afb l r _
  ·rfl
def Tb {d:Nat} (h:d<10):(UInt8.ofNat (48+d)).toNat=48+d:=by
 rw[UInt8.toNat_ofNat'];omega
def AiV:∀ (f u:Nat),u<10 ^ (f+1)->u<10 ^ 18->(Lib.decDigits u)≠[]/\(Lib.decDigits u).length<=f+1/\(Lib.decDigits u).all digit=true/\decV (Lib.decDigits u) 0=u/\Lib.parseUint10 0 (Lib.decDigits u)=.ok u:=by
 have one:∀ d,d<10->[UInt8.ofNat (48+d)].all digit=true:=λd hd=>by simp only[List.all_cons,List.all_nil,Bool.and_true,digit,Tb hd,aH];omega
 have low:∀ u,u<10->(Lib.decDigits u)≠[]/\(Lib.decDigits u).length<=1/\(Lib.decDigits u).all digit=true/\decV (Lib.decDigits u) 0=u/\Lib.parseUint10 0 (Lib.decDigits u)=.ok u:=λu hu=>by
  rw[FM hu];refine⟨by simp,by simp,one u hu,?_,?_⟩
  ·simp only[decV,Tb hu];omega
  ·rw[Lib.parseUint10,Tb hu,I_ o_,J_ o_,J_ o_];simp[Lib.parseUint10]
 intro f
 induction f with
 | zero=>intro u hu _;exact low u o_
 | succ f ih=>
  intro u hu hv;by_cases h1:u<10
  ·obtain⟨a,b,c⟩:=low u h1;exact⟨a,o_,c⟩
  ·obtain⟨a,b,c,d,e⟩:=ih (u / 10) (by rw[Nat.pow_succ] at hu;omega) o_;rw[H7 o_];refine⟨by simp,by simp;omega,?_,?_,?_⟩
   ·rw[List.all_append,c,one _ o_];rfl
   ·rw[NB,d,Tb o_];omega
   ·rw[Afb,e,nB];simp only[Lib.parseUint10];rw[Tb o_,I_ o_,J_ o_,J_ o_];simp only[Lib.NumEnd.ok.injEq];omega
def RO {n:Int} (h0:0<=n) (h1:n<=1000000000000):(1<=(Kt n).size/\(Kt n).size<=13/\(toL (Kt n)).all digit=true/\decV (toL (Kt n)) 0=n)/\Lib.atoiAll (toL (Kt n))=.ok n:=by
 have e:toL (Kt n)=Lib.decDigits n.toNat:=by unfold toL Kt Lib.itoa;rw[J_ o_]
 have es:(Kt n).size=(toL (Kt n)).length:=rfl;obtain⟨a,b,c,d,g⟩:=AiV 12 n.toNat o_ o_;rw[es,e];refine⟨⟨by have:=List.length_pos_iff.2 a;omega,b,c,by rw[d];omega⟩,?_⟩;cases hl:Lib.decDigits n.toNat with
 | nil=>exact absurd hl a
 | cons x r=>
  rw[hl] at c g;have hx:digit x=true:=by simp only[List.all_cons,Z_] at c;exact c.1
  simp only[digit,aH] at hx;rw[Lib.atoiAll_plain x r o_ o_];unfold Lib.parseMag;rw[J_ (by simp),g];unfold Lib.signless;simp only[];rw[J_ o_];simp only[Lib.NumEnd.ok.injEq];omega
def U7:∀ (l:List UInt8) (n:Int),0<=n->l.all digit=true->0<=decV l n
 | [],n,h,_=>h
 | x::l,n,h,ha=>by simp only[List.all_cons,Z_,digit,aH] at ha;exact U7 l _ o_ ha.2
def Afn {s:ByteArray} {v:Int} (h:Lib.atoiAll (toL s)=.ok v):parseInt s=if 0<=v/\v<=1000000000000/\Kt v=s then(v,true) else(0,false):=by
 by_cases hc:0<=v/\v<=1000000000000/\Kt v=s
 ·obtain⟨⟨a1,a2,a3,a4⟩,_⟩:=RO hc.1 hc.2.1;rw[hc.2.2] at a1 a2 a3 a4;rw[I_ hc];unfold parseInt;rw[I_ ⟨a1,a2,a3,by rw[a4];exact hc.2.1,by rw[a4];exact hc.2.2⟩,a4]
 ·rw[J_ hc];unfold parseInt;rw[J_];rintro⟨b1,b2,b3,b4,b5⟩;have hn:=U7 (toL s) 0 o_ b3;have:=(RO hn b4).2;rw[b5,h] at this;injection this with this
  rw[<-this] at hn b4 b5;exact hc ⟨hn,b4,b5⟩
def Ahq {s:ByteArray} (h:∀ v,Lib.atoiAll (toL s)≠.ok v):parseInt s=(0,false):=by
 unfold parseInt;rw[J_];rintro⟨b1,b2,b3,b4,b5⟩;have:=(RO (U7 (toL s) 0 o_ b3) b4).2;rw[b5] at this;exact h _ this
open Go.RowKit in
def AdI (n:Int) (h0 : -9223372036854775808<=n) (h1:n<=9223372036854775807) (w:World) (hl:Laid Tryz.prog w):Calls Tryz.prog 384 #[.int .i64 n] w λe w'=>e=.returned (.string (Kt n))/\Neu w w':=by
 go_enter func384,Tryz.ntmps384
 go_wp2_with (fail)
 refine(Go.Proofs.Any.strconv_Itoa Wm n h0 h1 w (hl.1 k_)).mono ?_;rintro e w' ⟨rfl,k,os,rfl⟩;have hN:Hid (Neu w (Go.Sort.grow (w.drewN k) os)):=Neu.grow w k os
 go_wp2
 go_ret
 exact⟨rfl,hN.out⟩
open Go.RowKit in
def Zn (s:ByteArray) (hs:s.size<=1000000000000) (w:World) (hl:Laid Tryz.prog w):Calls Tryz.prog 455 #[.string s] w λe w'=>((∃ v,Lib.atoiAll (toL s)=.ok v/\e=.returned (.tuple #[.int .i64 v,.nilIface]))\/((∀ v,Lib.atoiAll (toL s)≠.ok v)/\∃ n t p,e=.returned (.tuple #[.int .i64 n,.iface t p])))/\Neu w w':=by
 rcases hA:Lib.atoiAll (toL s) with v|_|_
 ·refine(Go.Proofs.Any.strconv_Atoi_ok Rm s o_ v hA w).mono ?_;rintro e w' ⟨rfl,h⟩;refine⟨.inl ⟨v,rfl,rfl⟩,?_⟩;rcases h with rfl|⟨t,rfl⟩
  ·exact Neu.refl _
  ·exact(Neu.refl _).bytes _ _
 ·obtain⟨tp,p,hv⟩:=hl.2.1 k_;refine(Go.Proofs.Any.strconv_Atoi_syntax Rm s o_ hA (.iface tp p) w (Vu k_ hv) (.inr ⟨_,_,rfl⟩)).mono ?_;rintro e w' ⟨N,rfl,h1,h2,h3⟩;exact⟨.inr ⟨λv=>by simp,_,_,_,rfl⟩,Neu.below h3⟩
 ·obtain⟨tp,p,hv⟩:=hl.2.2 k_;refine(Go.Proofs.Any.strconv_Atoi_range Rm s o_ hA (.iface tp p) w (Vu k_ hv) (.inr ⟨_,_,rfl⟩)).mono ?_;rintro e w' ⟨N,rfl,h1,h2,h3⟩;exact⟨.inr ⟨λv=>by simp,_,_,_,rfl⟩,Neu.below h3⟩
open Go.RowKit in
def XE (s:ByteArray) (hs:s.size<=1000000000000) (w:World) (hl:Laid Tryz.prog w):Calls Tryz.prog 442 #[.string s] w λe w'=>e=.returned (.tuple #[.int .i64 (parseInt s).1,.bool (parseInt s).2])/\Neu w w':=by
 go_enter func442,Tryz.ntmps442
 go_wp2_with (fail)
 refine(Zn s hs w hl).mono ?_;rintro e w' ⟨⟨v,hA,rfl⟩|⟨hA,n,t,p,rfl⟩,hN⟩
 ·have hb:=Lib.atoiAll_bounds hA;have hp:=Afn hA;have hN:Hid (Neu w w'):=hN;have hA:Hid (_=_):=hA;by_cases h1:v<0
  ·rw[J_ o_] at hp
   go_wp2_with (fail)
   go_ret2
   exact⟨by rw[hp];rfl,hN.out⟩
  ·by_cases h2:v>1000000000000
   ·rw[J_ o_] at hp
    go_wp2_with (fail)
    go_ret2
    exact⟨by rw[hp];rfl,hN.out⟩
   ·go_wp2_with (fail)
    refine(AdI v hb.1 hb.2 w' (hN.out.laid hl)).mono ?_;rintro e w2 ⟨rfl,hN2⟩;have hN2:Hid (Neu w' w2):=hN2;by_cases h3:Kt v=s
    ·rw[I_ ⟨o_,o_,h3⟩] at hp;rw[h3]
     go_wp2_with (fail)
     go_ret2
     exact⟨by rw[hp];rfl,hN.out.trans hN2.out⟩
    ·rw[J_ (by rintro⟨_,_,q⟩;exact h3 q)] at hp;have h4:((Kt v).toList==s.toList)=false:=by rw[Aim];simp[h3]
     go_wp2_with (fail)
     go_ret2
     exact⟨by rw[hp];rfl,hN.out.trans hN2.out⟩
 ·have hp:=Ahq hA;have hN:Hid (Neu w w'):=hN;have hA:Hid (∀ v,Lib.atoiAll (toL s)≠.ok v):=hA
  go_wp2_with (fail)
  go_ret2
  exact⟨by rw[hp];rfl,hN.out⟩
def AhB:HH.ok Tryz.prog 442:=Ur rfl rfl λx hx w ow hB=>XE x.1 hx w hB.laid
def Alb:=AnV.a HH<|AhB
def An2 (l:List ByteArray):cut l 1 (l.length-1)=l.drop 1:=by unfold cut;rw[ct];simp
def AiC (s:ByteArray):((cutPre s ⟨#[47]⟩).2=true->0<s.size/\s.data.getD 0 0=47/\(cutPre s ⟨#[47]⟩).1=s.extract 1 s.size)/\((cutPre s ⟨#[47]⟩).2=false->¬ (0<s.size/\s.data.getD 0 0=47)):=by
 have h1:ByteArray.size ⟨#[47]⟩=1:=rfl;have key:hasPre s ⟨#[47]⟩=true↔0<s.size/\s.data.getD 0 0=47:=by
  unfold hasPre;rw[aH,h1];constructor
  ·rintro⟨a,b⟩;refine⟨a,?_⟩;have:=congrArg toL b;rw[A4,dt,Ny (i:=0) a,List.take_zero,fi] at this;exact(List.cons.inj this).1
  ·rintro⟨a,b⟩;refine⟨a,?_⟩;rw[<-Cg (s.extract 0 1),A4,dt,Ny (i:=0) a,List.take_zero,fi,b];rfl
 unfold cutPre;by_cases h:hasPre s ⟨#[47]⟩=true
 ·rw[I_ h];exact⟨λ_=>⟨(key.1 h).1,(key.1 h).2,rfl⟩,λh2=>(by cases h2)⟩
 ·rw[J_ h];exact⟨λh2=>(by cases h2),λ_ h2=>h (key.2 h2)⟩
def Z8 {s:ByteArray} (h:s.size<=60) (hn:¬ (0<s.size/\s.data.getD 0 0=47)) (hb:isName ((spl 32 s).getD 0 default)=false\/5<(spl 32 s).length):tagOf s=(default,false):=by
 unfold tagOf;rw[J_ o_,J_ hn];cases ha:tagAttrs ((spl 32 s).drop 1) [] with
 | none=>rfl
 | some ats=>
  have:=M5 ha;simp only[aJ,dn] at this;show(if isName ((spl 32 s).getD 0 default)=true/\ats.length<=4 then _ else _)=_;rw[J_];rintro⟨c1,c2⟩;rcases hb with hb|hb
  ·rw[hb] at c1;cases c1
  ·omega
def Ad2 {l:List ByteArray} {i:Nat} {acc:List cf} (h:i<l.length):tagAttrs (l.drop i) acc=if(Hl 61 (l.getD i default)).2.2=true/\isName (Hl 61 (l.getD i default)).1=true/\isValue (Hl 61 (l.getD i default)).2.1=true/\(findAttr acc (Hl 61 (l.getD i default)).1).isSome=false then tagAttrs (l.drop (i+1)) (acc++[⟨(Hl 61 (l.getD i default)).1,(Hl 61 (l.getD i default)).2.1⟩]) else none:=by
 rw[OF h];unfold Hl;cases G7 61 (toL (l.getD i default)) with
 | none=>simp
 | some r=>
  obtain⟨p,q⟩:=r;simp only[true_and];cases isName (ofL p)<;>cases isValue (ofL q)<;>cases findAttr acc (ofL p)<;>simp
abbrev F8 (s:ByteArray):LInv:=⟨[⟨.b,7,true,.el .token⟩,⟨.s,52,true,.el .int⟩,⟨.b,2,true,.el .token⟩,⟨.s,50,true,.sl .str⟩],λ(z x:cG)=>((0<=x.2.1/\x.2.1+1<=(spl 32 s).length/\x.1.bo.length<=x.2.1/\x.1=⟨1,(spl 32 s).getD 0 default,x.1.bo,⟨#[]⟩⟩/\tagAttrs ((spl 32 s).drop (x.2.1.toNat+1)) x.1.bo=tagAttrs ((spl 32 s).drop 1) [])/\x.2.2.1=z.2.2.1)/\x.2.2.2.1=z.2.2.2.1,λ(x:cG)=>(spl 32 s).length-x.2.1.toNat⟩
def AnX:=Alb.a P9<|Fct.p (KP [0,2,3,4,5,6,7,9,10,11,12,14,50,51,52] [17,24,27,43,53,83]) (λ⟨s,_⟩=>lv [(13,F8 s)]) Alb.2 func207 (by
 rintro⟨(s:ByteArray),_⟩ hp;refine ho (let L_:=(⟨#[]⟩:ByteArray);let E_:Out:=.leaf (.tup [(true,[vi ((0:Int)),vs (L_),.nl,vs (L_)]),(false,[vb (false)])]) [] [];.br (decide ((s.size:Int)>60)) E_ (.cl JG (s,(⟨#[47]⟩:ByteArray),()) λz2=>.br (z2.2.1) (.cl Bv (z2.1,()) λz3=>.br (!z3.1) E_ (.leaf (.tup [(true,[vi ((2:Int)),vs (z2.1),.nl,vs (L_)]),(false,[vb (true)])]) [] [])) (.cl Hy (s,(⟨#[32]⟩:ByteArray),()) λz4=>let Q_:=(z4.1.length:Int);let M_:=z4.1.length-1;let H_:=(0:Int)<=(0:Int)/\(0:Int)<Q_;.ob H_<|.ob (0<z4.1.length)<|.cl Bv (z4.1.getD 0 default,()) λz5=>.br (!z5.1) E_ (.br (decide (wr (Q_-(1:Int))>4)) E_ (.ob H_<|.ob (0<z4.1.length)<|.ob ((0:Int)<=(1:Int)/\(1:Int)<=Q_)<|.ob (1+M_<=z4.1.length)<|lpx (F8 s) ((⟨(1:Int),z4.1.getD 0 default,[],L_⟩:ao),((0:Int),(default,(cut z4.1 1 M_,())))) λ(y16:cG) bk16=>.br (decide (y16.2.1<(M_:Int))) (.ix y16.2.1 y16.2.2.2.1.length<|.cl Ab5 (y16.2.2.2.1.getD y16.2.1.toNat default,(⟨#[61]⟩:ByteArray),()) λz6=>let U_:=(⟨z6.1,z6.2.1⟩:cf);.cl Al (y16.1.bo,z6.1,()) λz7=>.br (!z6.2.2.1) E_ (.cl Bv (z6.1,()) λz8=>.br (!z8.1) E_ (.cl GE (z6.2.1,()) λz9=>.br (!z9.1) E_ (.br (z7.2.1) E_ (.ap (y16.1.bo.length+[U_].length) 32<|.re (Value.string s)<|.re (Value.string z2.1)<|.re (Value.bool z2.2.1)<|.re (Value.int IntKind.i64 (M_:Int))<|.bk (bk16 (({y16.1 with bo:=y16.1.bo++[U_]}:ao),(w1 y16.2.1,(y16.2.2.1,(y16.2.2.2.1,())))))))))) (.lf P9 (y16.1,true,()))))))) ?_;refine Aa (λh1=>Fct.leafZ (default,false,()) (by repeat' first|exact rfl|exact trivial|refine And.intro ?_ ?_) ?_) λh1=>Do ?_ λo2 z2 ez2=>Aa (λh3=>Do ?_ λo4 z3 ez3=>Aa (λh5=>Fct.leafZ (default,false,()) (by repeat' first|exact rfl|exact trivial|refine And.intro ?_ ?_) ?_) λh5=>Fct.leafZ (⟨(2:Int),z2.fst,[],{ data := #[]:ByteArray }⟩,true,()) (by repeat' first|exact rfl|exact trivial|refine And.intro ?_ ?_) ?_) λh3=>Do ?_ λo6 z4 ez4=>Ab ?_ λ_=>Ab ?_ λ_=>Do ?_ λo9 z5 ez5=>Aa (λh10=>Fct.leafZ (default,false,()) (by repeat' first|exact rfl|exact trivial|refine And.intro ?_ ?_) ?_) λh10=>Aa (λh11=>Fct.leafZ (default,false,()) (by repeat' first|exact rfl|exact trivial|refine And.intro ?_ ?_) ?_) λh11=>Ab ?_ λ_=>Ab ?_ λ_=>Ab ?_ λ_=>Ab ?_ λ_=>Am ?_ λ(y16:cG) i16=>Aa (λh17=>Ei ?_ λo18 o19=>Do ?_ λo20 z6 ez6=>Do ?_ λo21 z7 ez7=>Aa (λh22=>Fct.leafZ (default,false,()) (by repeat' first|exact rfl|exact trivial|refine And.intro ?_ ?_) ?_) λh22=>Do ?_ λo23 z8 ez8=>Aa (λh24=>Fct.leafZ (default,false,()) (by repeat' first|exact rfl|exact trivial|refine And.intro ?_ ?_) ?_) λh24=>Do ?_ λo25 z9 ez9=>Aa (λh26=>Fct.leafZ (default,false,()) (by repeat' first|exact rfl|exact trivial|refine And.intro ?_ ?_) ?_) λh26=>Aa (λh27=>Fct.leafZ (default,false,()) (by repeat' first|exact rfl|exact trivial|refine And.intro ?_ ?_) ?_) λh27=>Ed ?_ λ_=>Ai<|Ai<|Ai<|Ai<|AR ?_) λh17=>lfY ?_;all_goals subst_vars
 all_goals (try simp only[Kj] at *)<;>(try simp only[Ab5,Hy,std,Nat.reduceAdd,An2] at *)<;>(try simp only[show(#[47]:Array UInt8).getD 0 0=47 from rfl,show(#[32]:Array UInt8).getD 0 0=32 from rfl,show(#[61]:Array UInt8).getD 0 0=61 from rfl] at *)<;>(have hk:=DU 32 s;have hm:∀ i,i<(spl 32 s).length->((spl 32 s).getD i default).size<=s.size:=λi h=>KX (AH h))<;>(have hq:=AiC s;have hx:(s.extract 1 s.size).size<=s.size:=by rw[cH];omega)<;>(try obtain⟨⟨⟨a1,a2,a3,a4,a5⟩,a6⟩,a7⟩:=i16)<;>(have hd:∀ i,((spl 32 s).drop 1).getD i default=(spl 32 s).getD (i+1) default:=λi=>by simp[cd,e8,Nat.add_comm])<;>(try simp only[a7,hd,dn] at *)<;>(first|trivial|omega|skip)<;>(first|(rw[Io.1 o_];exact⟨rfl,rfl⟩)|(rw[(hq.1 ‹_›).2.2];omega)|skip)<;>(first|(rw[Io.2 o_ (hq.1 ‹_›).1 (hq.1 ‹_›).2.1,J_ (by rw[<-(hq.1 ‹_›).2.2,show isName _=false from ‹_›];decide)];exact⟨rfl,rfl⟩)|(rw[Io.2 o_ (hq.1 ‹_›).1 (hq.1 ‹_›).2.1,I_ (by rw[<-(hq.1 ‹_›).2.2];assumption)];exact⟨by rw[(hq.1 ‹_›).2.2],rfl⟩)|skip)<;>(have hn:=hq.2 ‹_›;try rw[Ah (show -9223372036854775808<=(((spl 32 s).length:Nat):Int)-1/\(((spl 32 s).length:Nat):Int)-1<=9223372036854775807 from o_)] at *)<;>(first|(rw[Z8 o_ hn (.inl ‹_›)];exact⟨rfl,rfl⟩)|(rw[Z8 o_ hn (.inr o_)];exact⟨rfl,rfl⟩)|omega|exact⟨o_,o_,by simp,rfl,rfl⟩|exact⟨o_,o_,by simp,trivial,rfl⟩|skip)<;>(have h00:=hm 0 o_;try have hw:=hm (y16.2.1.toNat+1))<;>(first|omega|exact⟨o_,rfl⟩|exact⟨o_,o_⟩|skip)<;>(first|exact⟨o_,o_,o_,trivial⟩|skip)<;>have hc:=Uy 61 ((spl 32 s).getD (y16.2.1.toNat+1) default)<;>(first|omega|(rw[Jx o_] at a5;rw[Q3 o_ hn a5.symm,I_ ⟨‹_›,o_⟩];exact⟨a4,rfl⟩)|rw[Ad2 o_] at a5)<;>(first|(rw[J_ (by rintro⟨c1,c2,c3,c4⟩;first|exact tf c1 ‹_›|exact tf c2 ‹_›|exact tf c3 ‹_›|exact tf ‹_› c4)] at a5;rw[Vz o_ hn a5.symm];exact⟨rfl,rfl⟩)|rw[I_ ⟨‹_›,‹_›,‹_›,‹_›⟩] at a5)<;>rw[Ah o_,A_ o_]<;>refine⟨⟨⟨⟨o_,o_,by rw[al];simp only[aw,aJ];omega,?_,a5⟩,a6⟩,by first|trivial|rfl⟩,o_⟩<;>rw[a4])
def Kq (c:UInt8):∀ l:List UInt8,Lib.indexByte l c=if l.findIdx (λx=>x==c)=l.length then -1 else((l.findIdx λx=>x==c:Nat):Int)
 | []=>rfl
 | b::l=>by
  have hl:=List.findIdx_le_length (xs:=l) (p:=λx=>x==c);rw[Lib.indexByte,Kq c l,List.findIdx_cons];cases hb:(b==c) with
  | true=>simp
  | false=>
   simp only[cX,bC,cy,aw];by_cases h:l.findIdx (λx=>x==c)=l.length
   ·rw[I_ h,I_ (by decide),I_ o_]
   ·rw[J_ h,J_ (by simp only[da];omega),J_ o_];omega
def idxJ (b:UInt8) (s:ByteArray):Int:=if idxB b s=s.size then -1 else idxB b s
abbrev AgU:Fct:=⟨[.v (.el .str),.v (.el .u8)],[.el .int],λ(x:ai)=>0<=x.2.1/\x.2.1<=255,λ(x:ai)=>(idxJ (UInt8.ofNat x.2.1.toNat) x.1,())⟩
def AfT:Go.Proofs.Lays.n137 Tryz.prog laysCmp_r:=by repeat' first|kernel_rfl|constructor|intro _
def AlT:=AnX.a AgU<|Ur rfl rfl λx hx w ow hB=>(Go.Proofs.Any.strings_IndexByte AfT x.1 x.2.1 w).mono λe w' ⟨a,b⟩=>⟨by rw[a,Kq];rfl,by rw[b];exact Neu.refl w⟩
def Abz {x:ByteArray} (h0:0<x.size):(x.data.getD 0 0=60↔idxB 60 x=0):=by
 have e:toL x=x.data.getD 0 0::(toL x).drop 1:=by
  have:=Ka (s:=x) (i:=0) h0
  rwa [dt] at this
 unfold idxB;rw[e,List.findIdx_cons];cases hb:(x.data.getD 0 0==60) with
 | true=>simp;simpa using hb
 | false=>simp;simpa using hb
def Abw (b:UInt8) (x:ByteArray):(idxJ b x = -1/\idxB b x=x.size)\/(idxJ b x=idxB b x/\idxB b x<x.size):=by
 have:=G6 b x;unfold idxJ;by_cases h:idxB b x=x.size
 ·rw[I_ h];exact .inl ⟨rfl,h⟩
 ·rw[J_ h];exact .inr ⟨rfl,o_⟩
def AcY {x:ByteArray} (h:x.size=0):feedAll x=([],x):=by
 have k1:=G6 60 x;have k2:=G6 62 x;exact OJ o_ o_
abbrev Co (t:dv) (s:ByteArray):LInv:=⟨[⟨.s,6,true,.el .str⟩,⟨.s,7,true,.sl .token⟩,⟨.b,5,true,.el .tokenizer⟩],λ(z x:dS)=>(x.2.1.length+x.1.size<=(t.rest++s).size/\x.2.1++(feedAll x.1).1=(feedAll (t.rest++s)).1/\(feedAll x.1).2=(feedAll (t.rest++s)).2)/\x.2.2.1=z.2.2.1,λ(x:dS)=>x.1.size⟩
def AkY:=AlT.a Ip<|Fct.p (KP [1,2,4,5,6,7,8,9,10,11] [18,21,25,39,47]) (λ⟨t,s,_⟩=>lv [(3,Co t s)]) AlT.2 func115 (by
 rintro⟨(t:dv),(s:ByteArray),_⟩ hp;refine ho (let aj:=(⟨#[]⟩:ByteArray);let U_:=Value.string s;.ob (sameSize t.rest s)<|lpx (Co t s) (t.rest++s,([],(default,()))) λ(y2:dS) bk2=>let L_:Out:=.lf Ip (y2.2.1,⟨y2.1⟩,());let E_:=(y2.1.size:Int);.br (!y2.1.toList==aj.toList) (.ob ((0:Int)<=(0:Int)/\(0:Int)<E_)<|.br ((↑(y2.1.data.getD 0 0).toNat:Int) != 60) (.cl AgU (y2.1,(60:Int),()) λ(z2:B_)=>let Q_:=0<=z2.1/\z2.1<=E_;let H_:=(⟨(3:Int),aj,[],y2.1.extract 0 z2.1.toNat⟩:ao);.br (decide (z2.1<0)) L_ (.ob Q_<|.ob (IA (y2.2.1.length+[H_].length) 64)<|.ob Q_<|.re U_<|.bk (bk2 (y2.1.extract z2.1.toNat y2.1.size,(y2.2.1++[H_],(y2.2.2.1,())))))) (.cl AgU (y2.1,(62:Int),()) λ(z3:B_)=>let M_:=0<=w1 z3.1/\w1 z3.1<=E_;.br (decide (z3.1<0)) L_ (.ob ((0:Int)<=(1:Int)/\1<=z3.1/\z3.1<=E_)<|.cl P9 (y2.1.extract 1 z3.1.toNat,()) λz4=>.br (z4.2.1) (.ob (IA (y2.2.1.length+[z4.1].length) 64)<|.ob M_<|.re U_<|.bk (bk2 (y2.1.extract (w1 z3.1).toNat y2.1.size,(y2.2.1++[z4.1],(y2.2.2.1,()))))) (.ob M_<|.re U_<|.bk (bk2 (y2.1.extract (w1 z3.1).toNat y2.1.size,(y2.2.1,(y2.2.2.1,())))))))) L_) ?_;repeat' (guard_target =~ Out.holds _ _;first|refine Am (li:=Co t s) ?_ λ(y2:dS) i2=>?_|refine lfY ?_|refine Aa (λ_=>?_) λ_=>?_|refine Ae ?_ λ_=>?_|refine Ab ?_ λ_=>?_|refine AR ?_|refine Ai ?_)
 all_goals (try simp only[Kj] at *)<;>(try simp only[std,Nat.reduceAdd] at *)<;>(try simp only[show UInt8.ofNat (Int.toNat 60)=60 from rfl,show UInt8.ofNat (Int.toNat 62)=62 from rfl,aQ] at *)<;>(try obtain⟨⟨a1,a2,a3⟩,a4⟩:=i2)<;>(first|trivial|omega|(unfold sameSize;omega)|skip)<;>(have k1:=G6 60 y2.1;have k2:=G6 62 y2.1;have j1:=Abw 60 y2.1;have j2:=Abw 62 y2.1)<;>(first|omega|skip)<;>(have k3:=UR (x:=y2.1);have kb:=NP (s:=y2.1) (i:=0) (b:=60) (by decide) (by decide);have kn:¬ y2.1=⟨#[]⟩->0<y2.1.size:=λh=>Nat.pos_of_ne_zero λe=>h (ByteArray.size_eq_zero_iff.1 e))<;>(first|(refine⟨o_,?_⟩;have:=kn ‹_›;omega)|(rw[AcY (x:=y2.1) (by rw[show y2.1=_ from ‹_›];rfl)] at a2 a3;rw[cF] at a2;exact⟨a2,by rw[<-a3]⟩)|skip)<;>have kh:=Abz (x:=y2.1) o_<;>(first|(have ht:¬ idxB 60 y2.1=0:=λe=>absurd (kb.2 (by rw[kh.2 e];rfl)) ‹_›)|(have ht:idxB 60 y2.1=0:=kh.1 ((kb.1 ‹_›).trans rfl)))<;>(first|(rw[OJ (x:=y2.1) o_ o_] at a2 a3;rw[cF] at a2;exact⟨a2,by rw[<-a3]⟩)|skip)<;>(try have k6:idxB 62 y2.1<y2.1.size:=o_)<;>(try have k7:=k3 ht k6)<;>(first|omega|(rw[cH];omega)|(rw[Ah o_];omega)|skip)<;>(have k5:∀ a,(y2.1.extract a y2.1.size).size=y2.1.size-a:=λa=>by rw[cH];omega)<;>(first|(have e1:idxJ 60 y2.1=(idxB 60 y2.1:Int):=by omega);rw[SI (x:=y2.1) o_ o_] at a2 a3;rw[e1,fw]|(have e1:idxJ 62 y2.1=(idxB 62 y2.1:Int):=by omega);rw[V5 (x:=y2.1) ht k6] at a2 a3;rw[Ah o_,e1,show(((idxB 62 y2.1:Nat):Int)+1).toNat=idxB 62 y2.1+1 from o_])<;>(try simp only[e1,fw] at *)<;>(try first|rw[I_ ‹_›] at a2|rw[J_ (by rw[show Prod.snd _=false from ‹_›];decide)] at a2)<;>refine⟨⟨⟨?_,?_,a3⟩,a4⟩,?_⟩<;>(first|(rw[k5];simp only[al,aw,aJ];omega)|(rw[k5];omega)|exact a2|(rw[bB];exact a2)|skip))
def Akj:=AkY.a Bl<|Fct.o (KP [1,3,5,6,7,8,9,13] [14,20,30,40,53,66]) AkY.2 func414 (by
 rintro⟨(b:af),(l:List bu),(x:bI),_⟩ hp;exact ho _ (q7 b l x hp))
abbrev DA (b:af) (l:(List bu)) (r:(List bI)):LInv:=⟨[⟨.b,9,true,.el .ba⟩,⟨.s,10,true,.el .str⟩,⟨.s,11,true,.sl .str⟩,⟨.s,22,true,.el .int⟩,⟨.b,6,true,.el .ba⟩],λ(z x:cU)=>(0<=x.2.2.2.1/\x.2.2.2.1<=r.length/\szBuilder x.1+szL CH (r.drop x.2.2.2.1.toNat)<=szBuilder b+szL CH r/\x.2.1.size+szL CH (r.drop x.2.2.2.1.toNat)<=szL CH r/\x.2.2.1.length<=x.2.2.2.1/\runLines l (r.drop x.2.2.2.1.toNat) x.1 x.2.1 x.2.2.1=runScript b l r)/\x.2.2.2.2.1=z.2.2.2.2.1,λ(x:cU)=>r.length-x.2.2.2.1.toNat⟩
def Anq:=Akj.a Gu<|Fct.p (KP [1,2,3,6,7,8,9,10,11,13,14,15,16,20,21,22] [23,39]) (λ⟨b,l,r,_⟩=>lv [(5,DA b l r)]) Akj.2 func376 (by
 rintro⟨(b:af),(l:List bu),(r:List bI),_⟩ hp;refine ho (.cl Cl (b,()) λz2=>lpx (DA b l r) (z2.1,((⟨#[]⟩:ByteArray),([],((0:Int),(default,()))))) λ(y2:cU) bk2=>.br (decide (y2.2.2.2.1<(r.length:Int))) (.ob (inB y2.2.2.2.1 r.length)<|.cl Bl (y2.1,l,r.getD y2.2.2.2.1.toNat default,()) λz3=>.ob (sameSize y2.2.1 z3.2.1)<|.br (!z3.2.2.1.toList==(⟨#[]⟩:ByteArray).toList) (.ap (y2.2.2.1.length+[z3.2.2.1].length) 16<|.re (l)<|.re (r)<|.re (Value.string (⟨#[]⟩:ByteArray))<|.re (r)<|.re (Value.int IntKind.i64 (r.length:Int))<|.bk (bk2 (z3.1,(y2.2.1++z3.2.1,(y2.2.2.1++[z3.2.2.1],(w1 y2.2.2.2.1,(y2.2.2.2.2.1,()))))))) (.re (l)<|.re (r)<|.re (Value.string (⟨#[]⟩:ByteArray))<|.re (r)<|.re (Value.int IntKind.i64 (r.length:Int))<|.bk (bk2 (z3.1,(y2.2.1++z3.2.1,(y2.2.2.1,(w1 y2.2.2.2.1,(y2.2.2.2.2.1,())))))))) (.lf Gu (y2.1,y2.2.1,y2.2.2.1,()))) ?_;refine Ae ?_ λ_=>(Am ?_ λ(y2:cU) i2=>Aa (λh3=>Ab ?_ λ_=>Ae ?_ λ_=>Ab ?_ λ_=>Aa (λh7=>Ed ?_ λ_=>Ai<|Ai<|Ai<|Ai<|Ai<|AR ?_) λh7=>Ai<|Ai<|Ai<|Ai<|Ai<|AR ?_) λh3=>lfY ?_)<;>(have hr:=Ac CH r;have hx:∀ i,i<r.length->szL CH (r.drop i)=(r.getD i default).text.size+1+szL CH (r.drop (i+1)):=λi h=>O1 CH h)<;>have hs:=λbb x=>LZ bb l x<;>(have hrs:runLines l r b ⟨#[]⟩ []=runScript b l r:=rfl;try simp only[std,Nat.reduceAdd,bK,bF,sameSize,aQ] at *)<;>(try simp(disch:=omega) only[FS,A_] at *)<;>(try simp(disch:=omega) only[I_,J_])<;>(first|trivial|omega|grind[FS,A_,HO,G_,F_,maxLen,bK,bF,sameSize,ByteArray.size_append]))
def AbG (w:ByteArray):ruleOf w=if isName (Hl 58 w).1=true/\(parseInt (Hl 58 w).2.1).2=true/\1<=(parseInt (Hl 58 w).2.1).1/\(parseInt (Hl 58 w).2.1).1<=999 then some ⟨(Hl 58 w).1,(parseInt (Hl 58 w).2.1).1⟩ else none:=by
 unfold ruleOf Hl;cases h:G7 58 (toL w) with
 | none=>
  dsimp only;rw[J_];rintro⟨_,q,_⟩;have:(parseInt ⟨#[]⟩).2=false:=by unfold parseInt;rw[J_ (by rintro⟨q,_⟩;exact absurd q (by decide))]
  exact tf q this
 | some r=>rfl
abbrev BR (s:ByteArray):LInv:=⟨[⟨.b,3,true,.el .sheet⟩,⟨.s,15,true,.el .int⟩,⟨.b,2,true,.el .sheet⟩,⟨.s,13,true,.sl .str⟩],λ(z x:cV)=>((0<=x.2.1/\x.2.1<=(spl 59 s).length/\x.1.rules.length<=8/\parseRules ((spl 59 s).drop x.2.1.toNat) x.1.rules=parseRules (spl 59 s) [])/\x.2.2.1=z.2.2.1)/\x.2.2.2.1=z.2.2.2.1,λ(x:cV)=>(spl 59 s).length-x.2.1.toNat⟩
def AjR:=Anq.a GC<|Fct.p (KP [0,2,3,5,6,7,9,10,13,14,15] [16,44]) (λ⟨s,_⟩=>lv [(3,BR s)]) Anq.2 func415 (by
 rintro⟨(s:ByteArray),_⟩ hp;refine ho (.cl Hy (s,(⟨#[59]⟩:ByteArray),()) λz2=>let M_:=(z2.1.length:Int);let H_:=Value.int IntKind.i64 M_;lpx (BR s) (default,((0:Int),(default,(z2.1,())))) λ(y2:cV) bk2=>let E_:Out:=.re (Value.string s)<|.re H_<|.bk (bk2 (y2.1,(w1 y2.2.1,(y2.2.2.1,(y2.2.2.2.1,())))));.br (decide (y2.2.1<M_)) (.ix y2.2.1 y2.2.2.2.1.length<|.cl Ab5 (y2.2.2.2.1.getD y2.2.1.toNat default,(⟨#[58]⟩:ByteArray),()) λz3=>.cl HH (z3.2.1,()) λ(z4:Int×Bool×PUnit)=>let L_:=(⟨z3.1,z4.1⟩:dw);.br (z4.2.1) (.cl Bv (z3.1,()) λz5=>.br (z5.1) (.cl Au (z4.1,(1:Int),(999:Int),()) λz6=>.br (z6.1) (.br (decide ((y2.1.rules.length:Int)<8)) (.ap (y2.1.rules.length+[L_].length) 24<|.re (Value.string s)<|.re H_<|.bk (bk2 ((⟨y2.1.rules++[L_]⟩:bu),(w1 y2.2.1,(y2.2.2.1,(y2.2.2.2.1,())))))) E_) E_) E_) E_) (.lf GC (y2.1,()))) ?_;repeat' first|(guard_target =~ Out.holds _ _;first|refine Am (li:=BR s) ?_ λ(y2:cV) i2=>?_|refine lfY ?_|refine Aa (λ_=>?_) λ_=>?_|refine Ae ?_ λ_=>?_|refine AR ?_|refine Ai ?_|refine Ed ?_ λ_=>?_|refine Ei ?_ λ_ _=>?_)|exact trivial
 all_goals (have hk:=DU 59 s;have hm:∀ i,i<(spl 59 s).length->((spl 59 s).getD i default).size<=s.size:=λi h=>KX (AH h))<;>(have hp1:s.size<=4200000000:=hp;try simp only[Ab5,Hy,std,Nat.reduceAdd,inRange] at *)<;>(try simp only[show(#[59]:Array UInt8).getD 0 0=59 from rfl,show(#[58]:Array UInt8).getD 0 0=58 from rfl,Z_,ep,aH,ca] at *)<;>(first|omega|exact⟨o_,o_,by decide,rfl⟩|(obtain⟨⟨⟨a1,a2,a3,a4⟩,e1⟩,e2⟩:=i2;simp only[e2] at *))<;>(try have hw:=hm y2.2.1.toNat o_;have hc:=Uy 58 ((spl 59 s).getD y2.2.1.toNat default))<;>(first|omega|exact⟨o_,o_⟩|(rw[Ks o_] at a4;show y2.1=parseSheet s;unfold parseSheet;rw[<-a4])|skip)<;>have e:=Lh (l:=spl 59 s) (i:=y2.2.1.toNat) (acc:=y2.1.rules) o_<;>rw[a4,AbG] at e<;>rw[Ah o_,show(y2.2.1+1).toNat=y2.2.1.toNat+1 from o_]<;>(first|(rw[J_ o_] at e;exact⟨⟨⟨⟨o_,o_,o_,e.symm⟩,e1⟩,by first|trivial|rfl⟩,o_⟩)|skip)<;>(first|(rw[I_ (show y2.1.rules.length<8 from o_),I_ ⟨‹_›,‹_›,o_,o_⟩] at e;exact⟨⟨⟨⟨o_,o_,by simp only[al,aw,aJ];omega,e.symm⟩,e1⟩,by first|trivial|rfl⟩,o_⟩)|skip)<;>rw[J_ (show ¬ (isName _=true/\_) by rintro⟨q1,q2,q3,q4⟩;first|omega|exact tf q1 ‹_›|exact tf q2 ‹_›),Option.toList_none,cF,ite_self] at e<;>exact⟨⟨⟨⟨o_,o_,o_,e.symm⟩,e1⟩,by first|trivial|rfl⟩,o_⟩)
def runL (p:C_) (l:List bI) (w:Bool):C_:={ p with ba:=(runScript p.ba (sheetsOf p.bf) l).1,log:=addLog p.log (runScript p.ba (sheetsOf p.bf) l).2.2,bn:=if w=true then tokensOf (runScript p.ba (sheetsOf p.bf) l).2.1++p.bn else p.bn }
def okRL (p:C_) (l:List bI):Prop:=p.bn.length<=1000000000000/\szBuilder p.ba<=40000000000/\szL AO p.bf<=40000000000/\okBod p/\szL CH l<=366
abbrev Fz:GS:=⟨[.b (.el .page),.l (.v (.sl .line)),.l (.v (.el .bool))],[],λ(x:ft)=>okRL x.1 x.2.1,λ(x:ft)=>((()),(runL x.1 x.2.1 x.2.2.1,()))⟩
def AdM {p:C_} {l:List bI} (h:okRL p l):szL AO p.bf<=1000000000000/\okBod p/\szBuilder p.ba<=50000000000/\szL DJ (sheetsOf p.bf)<=100000000000/\szL CH l<=1000000000/\okSheets (sheetsOf p.bf)/\(runScript p.ba (sheetsOf p.bf) l).2.1.size<=366/\(runScript p.ba (sheetsOf p.bf) l).2.2.length<=366/\p.bn.length<=1000000000000:=by
 obtain⟨h1,h2,h3,h4,h5⟩:=h;have hs:=Gn p.bf;have hr:=IW (sheetsOf p.bf) l p.ba ⟨#[]⟩ [];have hl:=Ac CH l;have h0:ByteArray.size ⟨#[]⟩=0:=rfl;simp only[aJ] at hr;exact⟨o_,h4,o_,o_,o_,hs.2,by(show(runLines (sheetsOf p.bf) l p.ba ⟨#[]⟩ []).2.1.size<=366;omega),by(show(runLines (sheetsOf p.bf) l p.ba ⟨#[]⟩ []).2.2.length<=366;omega),o_⟩
abbrev D3 (p:C_):LInv:=⟨[⟨.s,3,true,.sl .sheet⟩,⟨.s,10,true,.el .int⟩],λ_ (x:dU)=>0<=x.2.1/\x.2.1<=p.bf.length/\x.1.length<=x.2.1/\x.1++sheetsOf (p.bf.drop x.2.1.toNat)=sheetsOf p.bf,λ(x:dU)=>p.bf.length-x.2.1.toNat⟩
def Ak6:=AjR.a HD<|Fct.p (KP [1,2,3,5,8,9,10] [11,25]) (λ⟨p,_⟩=>lv [(3,D3 p)]) AjR.2 func377 (by
 rintro⟨(p:C_),_⟩ hp;refine ho (let M_:=(p.bf.length:Int);let L_:=Value.int IntKind.i64 M_;lpx (D3 p) ([],((0:Int),())) λ(y1:dU) bk1=>let H_:=p.bf.getD y1.2.1.toNat default;let E_:Out:=.re (p.bf)<|.re L_<|.bk (bk1 (y1.1,(w1 y1.2.1,())));.br (decide (y1.2.1<M_)) (.ob (inB y1.2.1 p.bf.length)<|.br (H_.mode==2) (.br (H_.done) (.br (H_.code==1) (.cl GC (H_.body,()) λz2=>.ob (IA (y1.1.length+[z2.1].length) 24)<|.re (p.bf)<|.re L_<|.bk (bk1 (y1.1++[z2.1],(w1 y1.2.1,())))) E_) E_) E_) (.lf HD (y1.1,()))) ?_;refine Am ?_ λ(y1:dU) i1=>Aa (λh2=>Ab ?_ λ_=>Aa (λh4=>Aa (λh5=>Aa (λh6=>Ae ?_ λ_=>(Ab ?_ λ_=>Ai<|Ai<|AR ?_)) λh6=>Ai<|Ai<|AR ?_) λh5=>Ai<|Ai<|AR ?_) λh4=>Ai<|Ai<|AR ?_) (λh2=>lfY ?_)<;>(have h0:sheetsOf (p.bf.drop 0)=sheetsOf p.bf:=rfl;have hl:=Ac AO p.bf;have hg:∀ i,i<p.bf.length->(p.bf.getD i default).body.size<=4200000000:=hp.2;have hg2:szL AO p.bf<=1000000000000:=hp.1;clear hp;try simp only[std,Nat.reduceAdd,bt,bG,al,aw,aJ,bB] at *)<;>(try simp(disch:=omega) only[FS,A_] at *)<;>(try simp(disch:=omega) only[I_,J_])<;>(first|trivial|omega|grind[FS,A_,HO,G_,F_,maxLen,bt,bG,List.length_append,List.length_cons,List.length_nil,List.append_assoc]))
def Amr:=Ak6.a HM<|Fct.o [0,2,3,4] Ak6.2 func378 (by
 rintro⟨(s:ByteArray),_⟩ hp;exact ho _ (q5 s hp))
def AmE:=Amr.a D4<|Fct.o (KP [1,2,4,5,6,7] [11]) Amr.2 func38 (by
 rintro⟨(p:C_),(s:ByteArray),_⟩ hp;exact ho _ (q6 p s hp))
abbrev DR (p:C_) (l:(List bI)) (w:Bool):LInv:=⟨[⟨.s,31,true,.el .int⟩,⟨.b,0,true,.el .page⟩,⟨.s,29,true,.sl .str⟩],λ(z x:dV)=>x.2.2.1=z.2.2.1/\logInv z.2.1 z.2.2.1 x.2.1 x.1,λ(x:dV)=>x.2.2.1.length-x.1.toNat⟩
def Amz:=AmE.G Fz<|GS.of (S:=Fz) (L:=λ⟨p,l,w,_⟩=>λ|3=>some (DR p l w)|_=>none) (kp:=(KP [0,2,6,7,8,10,29,30,31] [32,39])) AmE.2 func314 k_ k_ (by
 rintro⟨(p:C_),(l:List bI),(w:Bool),_⟩ hp;refine ho (.cl HD (p,()) λz2=>.cl Gu (p.ba,z2.1,l,()) λz3=>let E_:=(z3.2.2.1.length:Int);lpx (DR p l w) ((0:Int),(({p with ba:=z3.1}:C_),(z3.2.2.1,()))) λ(y3:dV) bk3=>.br (decide (y3.1<E_)) (.ix y3.1 y3.2.2.1.length<|.ob (Nd.pre (y3.2.1,y3.2.2.1.getD y3.1.toNat default,()))<|.lt _ (Nd.fn (y3.2.1,y3.2.2.1.getD y3.1.toNat default,())) λz4=>.re (Value.bool w)<|.re (Value.string z3.2.1)<|.re (Value.int IntKind.i64 E_)<|.bk (bk3 (w1 y3.1,(z4.2.1,(y3.2.2.1,()))))) (.br (w) (.cl HM (z3.2.1,()) λz5=>.ob (IA (z5.1.length+y3.2.1.bn.length) 64)<|GS.out Fz ((()),({y3.2.1 with bn:=z5.1++y3.2.1.bn},()))) (GS.out Fz ((()),(y3.2.1,()))))) ?_;refine Ae ?_ λ_=>(Ae ?_ λ_=>Am ?_ λ(y3:dV) i3=>Aa (λh4=>Ei ?_ λo5 o6=>Ab trivial λ_=>DS (Ai<|Ai<|Ai<|AR ?_)) λh4=>Aa (λh8=>Ae ?_ λ_=>Ab ?_ λ_=>GS.leafY ?_) λh8=>GS.leafY ?_)<;>obtain⟨r1,r2,r3,r4,r5,r6,r7,r8,r9⟩:=AdM (show okRL p l from hp)<;>(try simp only[Kj] at *)<;>(try simp only[std,Nat.reduceAdd] at *)<;>(first|trivial|omega|exact⟨r1,r2⟩|exact⟨r3,r4,r5,r6⟩|exact Wq _ _|(obtain⟨j1,j3⟩:=i3;simp only[j1] at *;have j0:=j3.1)|skip)<;>(first|trivial|omega|exact⟨j0,‹_›⟩|(rw[Ah o_];simp only[and_true,true_and];exact⟨TK j3 ‹_›,o_⟩)|skip)<;>(have e:=Qs j3 o_;have eq1:y3.2.1.bn=p.bn:=by rw[e])<;>have ht:=IM (runScript p.ba (sheetsOf p.bf) l).2.1<;>(first|(simp only[eq1];omega)|skip)<;>(unfold runL;(first|rw[I_ ‹_›]|rw[J_ (by intro q;exact tf q ‹_›)]);rw[e]))
def Vf {p:C_} {c:ByteArray} {w:Bool} (h:(parseScript c).2=true):runCode p c w=runL p (parseScript c).1 w:=by unfold runCode;rw[I_ h];rfl
def Yn {p:C_} {c:ByteArray} {w:Bool} (h:(parseScript c).2=false):runCode p c w=say p ⟨#[101,114,114,111,114]⟩:=by
 unfold runCode;rw[J_ (by rw[h];decide)];unfold say;split
 ·rename_i hc;rw[addLog,I_ hc,Iq]
 ·rename_i hc;rw[I2 hc]
def Amn:=Amz.a DM<|Fct.o (KP [1,2,3,6,7,8,9] [18]) Amz.2 func209 (by
 rintro⟨(p:C_),(c:ByteArray),(w:Bool),_⟩ hp;refine ho (.cl AA (p,()) λz2=>.cl Be (c,()) λz3=>.br (!z3.2.1) (.ob (Nd.pre (z2.1,(⟨#[101,114,114,111,114]⟩:ByteArray),()))<|.lt _ (Nd.fn (z2.1,(⟨#[101,114,114,111,114]⟩:ByteArray),())) λz4=>.lf DM (z4.2.1,())) (.ob (Fz.pre (z2.1,z3.1,w,()))<|.lt _ (Fz.fn (z2.1,z3.1,w,())) λz5=>.lf DM (z5.2.1,()))) ?_;refine Ae ?_ λ_=>(Ae ?_ λ_=>Aa (λh3=>Ab trivial λ_=>DS (lfY ?_)) λh3=>Ab ?_ λ_=>DS (lfY ?_))<;>obtain⟨hp1,hp2,hp3,hp4,hp5⟩:=(show Aj p<=1000000000000/\szBuilder p.ba<=40000000000/\szL AO p.bf<=40000000000/\c.size<=4200000000/\okBod p from hp)<;>(try simp only[std,Nat.reduceAdd] at *)<;>(first|trivial|omega|exact⟨by(have h1:=Ac szToken p.bn;have h2:=EZ p;show p.bn.length<=_;omega),hp2,hp3,hp5,(GM c).1⟩|(rw[Yn ‹_›])|(rw[Vf ‹_›])))
def Alo:=Amn.a Bn<|Fct.o (KP [1,2,3,4,5] [8,14,25,40,54,62]) Amn.2 func117 (by
 rintro⟨(p:C_),_⟩ hp;refine ho (let U_:=(p.bf.length:Int);let E_:=p.block-(1:Int);let M_:=p.bf.getD (wr E_).toNat default;let L_:=0<=wr E_/\wr E_<U_;.cl AA (p,()) λz2=>let Q_:Out:=.lf Bn (z2.1,false,());let H_:Out:=.lf Bn ({z2.1 with block:=(0:Int)},true,());.br (p.inline != 0) (.cl Bc (p,()) λz3=>.br (!z3.1) Q_ (.cl LU (p.ba,p.inline,()) λz4=>.cl DM (z2.1,z4.1,true,()) λz5=>.lf Bn ({z5.1 with inline:=(0:Int)},true,()))) (.br (p.block != 0) (.br (decide (wr E_<0)) H_ (.br (decide (wr E_>=U_)) H_ (.ob L_<|.br (!M_.done) Q_ (.cl Bc (p,()) λz6=>.br (!z6.1) Q_ (.ob L_<|.br (M_.code==1) (.ob L_<|.cl DM (z2.1,M_.body,true,()) λz7=>.lf Bn ({z7.1 with block:=(0:Int)},true,())) H_))))) (.cl AU (p,()) λz8=>.lf Bn (z8.1,z8.2.1,())))) ?_;repeat' (guard_target =~ Out.holds _ _;first|refine lfY ?_|refine Aa (λ_=>?_) λ_=>?_|refine Ae ?_ λ_=>?_|refine Ab ?_ λ_=>?_)
 all_goals obtain⟨hp0,hp6,hp5⟩:=(show okParse p from hp)<;>obtain⟨hp1,hp2,hp3,hp4,hp7⟩:=(show okTok p from hp0)<;>(have hbb:szBuilder p.ba<=2000000000:=by(unfold szBuilder;omega))<;>(have hpp:=EZ p;have hsl:=Ac AO p.bf;have hnl:=Ac AM p.ba.bi;have htx:=LG p.inline p.ba.bi ⟨#[]⟩)<;>rw[show ByteArray.size ⟨#[]⟩=0 from rfl] at htx<;>(try simp only[std,Nat.reduceAdd,inRange,QQ] at *)<;>(try simp only[QQ,Z_,ep,aH,ca,Ah (show -9223372036854775808<=(p.bf.length:Int)-1/\(p.bf.length:Int)-1<=9223372036854775807 from o_)] at *)<;>(first|trivial|omega|exact hp0|exact⟨o_,o_,o_,hp5 _ o_,hp5⟩|exact⟨o_,o_,o_,o_,hp5⟩|skip)<;>unfold stepParser<;>(first|rw[I_ ‹_›]|(rw[J_ o_];first|rw[I_ ‹_›]|rw[J_ o_]))<;>(first|exact⟨rfl,rfl⟩|(unfold stepInline)|(unfold stepBlock))<;>(repeat first|rw[I_ ‹_›]|rw[J_ (by intro q;first|exact tf q ‹_›|exact tf ‹_› q)]|rw[I_ o_]|rw[J_ o_]|rw[I_ (by exact .inl ‹_›)]|rw[I_ (by exact .inr ‹_›)]|rw[J_ (by rintro(q|q)<;>exact tf ‹_› q)]|fail)<;>exact⟨rfl,rfl⟩)
def Acr {p q:C_} {a:D_} {i:Int} (h:entInv p a q i) (hp:okEnt p a) (b:D_):okRL { q with ran:=q.ran++[b]} (entLines p b):=by
 have he:=Ht h;have hz:=NA h hp;have e:=h.2.2.2.1;have eq1:q.bn=p.bn:=by rw[e]
 have hl:=Ac szToken p.bn;have hpp:=EZ p;have h1:=hp.1;refine⟨?_,?_,?_,?_,(K1 p b).1⟩
 ·show q.bn.length<=_;rw[eq1];omega
 ·show szBuilder q.ba<=_;omega
 ·show szL AO q.bf<=_;rw[he.2];omega
 ·intro j hj;have hj:j<q.bf.length:=hj;show(q.bf.getD j default).body.size<=_;rw[he.2] at hj ⊢;exact hp.2.2.2.2.2 j hj
def TI (p:C_) (b:D_):(parseModule (p.bh.getD (findMod p.bh b).toNat default).body b.host).2.1=entLines p b:=rfl
def Acb {p q:C_} {a:D_} {i:Int} (h:entInv p a q i) (b:D_) (hn:inL q.ran b=false):runL { q with ran:=q.ran++[b]} (entLines p b) false=enter1 p q b:=by
 have he:=Ht h;unfold runL enter1 entRun;rw[J_ (show ¬ (false=true) by decide),J_ (show ¬ inL q.ran b=true by rw[hn];decide)];simp only[he.2]
abbrev Mg:GS:=⟨[.b (.el .page),.l (.v (.el .addr))],[],λ(x:aO)=>okEnt x.1 x.2.1,λ(x:aO)=>((()),(enter x.1 x.2.1,()))⟩
abbrev Gl (p:C_) (a:D_):LInv:=⟨[⟨.s,25,true,.el .int⟩,⟨.b,0,true,.el .page⟩,⟨.s,23,true,.sl .addr⟩],λ(z x:av)=>(entInv p a x.2.1 x.1)/\x.2.2.1=z.2.2.1,λ(x:av)=>(reachOf p a).length-x.1.toNat⟩
def Akt:=Alo.G Mg<|GS.of (S:=Mg) (L:=λ⟨p,a,_⟩=>λ|4=>some (Gl p a)|_=>none) (kp:=(KP [0,3,5,7,23,24,25] [13,26,34])) Alo.2 func215 k_ k_ (by
 rintro⟨(p:C_),(a:D_),_⟩ hp;refine ho (let H_:=(⟨#[102,97,105,108,32]⟩:ByteArray);.cl DT (p,a,()) λz2=>.br (z2.1) (.cl D5 (a,()) λz3=>.ob (sameSize H_ z3.1)<|.ob (Nd.pre (p,H_++z3.1,()))<|.lt _ (Nd.fn (p,H_++z3.1,())) λz4=>GS.out Mg ((()),(z4.2.1,()))) (.cl GD (p,a,()) λz5=>let M_:=(z5.1.length:Int);let L_:=Value.int IntKind.i64 M_;lpx (Gl p a) ((0:Int),(p,(z5.1,()))) λ(y6:av) bk6=>let E_:=({y6.2.1 with ran:=y6.2.1.ran++[y6.2.2.1.getD y6.1.toNat default]}:C_);.br (decide (y6.1<M_)) (.ix y6.1 y6.2.2.1.length<|.cl Fc (y6.2.1.ran,y6.2.2.1.getD y6.1.toNat default,()) λz6=>.br (z6.1) (.re L_<|.bk (bk6 (w1 y6.1,(y6.2.1,(y6.2.2.1,()))))) (.ap (y6.2.1.ran.length+[y6.2.2.1.getD y6.1.toNat default].length) 32<|.cl G9 (E_,y6.2.2.1.getD y6.1.toNat default,()) λ(z7:B_)=>.ix z7.1 y6.2.1.bh.length<|.cl BK ((y6.2.1.bh.getD z7.1.toNat default).body,(y6.2.2.1.getD y6.1.toNat default).host,()) λz8=>.ob (Fz.pre (E_,z8.2.1,false,()))<|.lt _ (Fz.fn (E_,z8.2.1,false,())) λz9=>.re L_<|.bk (bk6 (w1 y6.1,(z9.2.1,(y6.2.2.1,())))))) (GS.out Mg ((()),(y6.2.1,()))))) ?_;refine Ae ?_ λ_=>(Aa (λh2=>Ae ?_ λ_=>Ab ?_ λ_=>Ab trivial λ_=>DS (GS.leafY ?_)) λh2=>Ae ?_ λ_=>Am ?_ λ(y6:av) i6=>Aa (λh7=>Ei ?_ λo8 o9=>Ae ?_ λ_=>Aa (λh11=>Ai<|AR ?_) λh11=>Ed ?_ λ_=>Ae ?_ λ_=>Ei ?_ λo15 o16=>Ae ?_ λ_=>Ab ?_ λ_=>DS (Ai<|AR ?_)) λh7=>GS.leafY ?_)<;>have hq:okEnt p a:=hp<;>obtain⟨p1,p2,p3,p4,p5,p6⟩:=(show okEnt p a from hp)<;>(have hfa:=PP a;try simp only[Kj] at *)<;>(try simp only[std,Nat.reduceAdd,Kl,RY] at *)<;>(first|trivial|omega|exact p2|(unfold sameSize;rw[show ByteArray.size ⟨#[102,97,105,108,32]⟩=5 from rfl];omega)|exact Vv p a|(unfold enter;rw[I_ ‹_›])|skip)<;>(obtain⟨i1,e2⟩:=i6;have em:=(Ht i1).1;have i0:=i1.1;have iz:=NA i1 hq)<;>(try simp only[e2,em,TI] at *)<;>(first|trivial|omega|skip)<;>(try have hmem:=AH (l:=reachOf p a) (i:=y6.1.toNat) o_;have hfnd:=Mi ‹_› hmem;have hfi:=BJ p.bh ((reachOf p a).getD y6.1.toNat default))<;>(first|exact⟨hfnd,hfi.1⟩|exact⟨p2.2.1 _ o_,J9 hmem p2.2.2.1⟩|(rw[Ah o_];have e:=Li i1 o_;unfold enter1 at e;rw[I_ ‹_›] at e;exact⟨⟨e,trivial⟩,o_⟩)|(unfold enter;rw[J_ (by intro q;exact tf q ‹_›)];have e:=i1.2.2.1;rw[M1 o_] at e;exact e)|skip)<;>(have hR:=Acr i1 hq ((reachOf p a).getD y6.1.toNat default);have hL:=Acb i1 ((reachOf p a).getD y6.1.toNat default) ‹_›;have em2:=(Ht i1).1)<;>simp only[em2] at hR hL<;>(first|exact hR|(rw[hL,Ah o_];exact⟨⟨Li i1 o_,trivial⟩,o_⟩)))
def Vb (p:C_) (c:ByteArray) (w:Bool):(runCode p c w).bm=p.bm:=by unfold runCode;split<;>rfl
def M4 (p:C_):∀ (l:List D_) (q:C_),(enterAll p q l).bq=q.bq
 | [],q=>rfl
 | b::l,q=>by have:=M4 p l (enter1 p q b);refine this.trans ?_;unfold enter1;split<;>rfl
def Abx (p:C_) (a:D_):(enter p a).bq=p.bq:=by
 unfold enter;split
 ·unfold say;split<;>rfl
 ·exact M4 p _ p
def AkA:=Akt.a CB<|Fct.o (KP [1,2,3,4,5,6,7] [26,30,52,56,66,87,96]) Akt.2 func118 (by
 rintro⟨(p:C_),_⟩ hp;refine ho (let L_:=(⟨#[108,111,97,100]⟩:ByteArray);.cl AA (p,()) λz2=>let E_:Out:=.lf CB (z2.1,false,());.cl EC (p,()) λz3=>.br (!z3.1) E_ (.br (p.loaded) E_ (.br (decide (p.bm<0)) E_ (.br (decide (p.bq<0)) E_ (.cl DF (p,()) λ(z4:W_)=>let H_:=p.bf.getD (z4.1.getD p.bm.toNat default).toNat default;.br (decide (p.bm<(z4.1.length:Int))) (.ix p.bm z4.1.length<|.ob (0<=z4.1.getD p.bm.toNat default/\z4.1.getD p.bm.toNat default<(p.bf.length:Int))<|.br (!H_.done) E_ (.cl Bc (p,()) λz5=>.br (!z5.1) E_ (.br (H_.code==1) (.cl DM (z2.1,H_.body,false,()) λz6=>.lf CB ({z6.1 with bm:=w1 z6.1.bm},true,())) (.lf CB ({z2.1 with bm:=w1 z2.1.bm},true,()))))) (.br (decide (p.bq<(p.bg.length:Int))) (.ob (inB p.bq p.bg.length)<|.cl CO (p,p.bg.getD p.bq.toNat default,()) λz7=>.br (!z7.1) E_ (.cl Bc (p,()) λz8=>.br (!z8.1) E_ (.ob (Mg.pre (z2.1,p.bg.getD p.bq.toNat default,()))<|.lt _ (Mg.fn (z2.1,p.bg.getD p.bq.toNat default,())) λz9=>.lf CB ({z9.2.1 with bq:=w1 z9.2.1.bq},true,())))) (.cl FF (p,()) λ(z10:W_)=>.br ((z10.1.length:Int)==0) (.cl GY (p,()) λ(z11:W_)=>.br ((z11.1.length:Int)==0) (.ob (Nd.pre (z2.1,L_,()))<|.lt _ (Nd.fn (z2.1,L_,())) λz12=>.lf CB ({z12.2.1 with loaded:=true},true,())) E_) E_))))))) ?_;repeat' first|(guard_target =~ Out.holds _ _;first|refine lfY ?_|refine Aa (λ_=>?_) λ_=>?_|refine Ae ?_ λ_=>?_|refine Ab ?_ λ_=>?_|refine DS ?_|refine Ei ?_ λ_ _=>?_)|exact trivial
 all_goals have hq:okTail p:=hp<;>obtain⟨⟨⟨hp1,hp2,hp3,hp4,hp9⟩,hp8,hp5⟩,hp6,hp10,hp7⟩:=(show okTail p from hp)<;>(have hbb:szBuilder p.ba<=2000000000:=by(unfold szBuilder;omega))<;>(have hpp:=EZ p;have hsl:=Ac AO p.bf;have hml:=Ac AF p.bh;have hel:=Ac szAddr p.bg;have hdl:(deferredSlots p).length<=p.bf.length:=Dn _ _ _;try simp only[Kj] at *)<;>(try simp only[std,Nat.reduceAdd,Oh,Qf] at *)<;>(first|trivial|omega|skip)<;>have hds:0<=p.bm->p.bm<(deferredSlots p).length->(defSlot p).body.size<=4200000000:=λa b=>hp5 _ (by have:=Ke p a b;omega)<;>have hes:0<=p.bq->p.bq<p.bg.length->okEnt p (entNow p):=λa b=>Ps hq o_<;>(first|exact Ke p ‹_› ‹_›|exact⟨hp1,o_,o_,hds ‹_› ‹_›,hp5⟩|exact hes ‹_› ‹_›|exact(hes ‹_› ‹_›).2.1|skip)<;>unfold stepTail<;>(repeat first|rw[I_ (by first|assumption|omega|exact .inl ‹_›|exact .inr ‹_›|exact .inr (.inl ‹_›)|exact .inr (.inr (.inl o_))|exact .inr (.inr (.inr o_))|exact .inl o_|exact .inr o_)]|rw[J_ (by first|omega|(rintro(q|q|q|q)<;>first|omega|exact tf ‹_› q|exact tf q ‹_›)|(rintro(q|q)<;>first|omega|exact tf ‹_› q))]|unfold tailDefer|unfold tailEnter)<;>(first|exact⟨rfl,rfl⟩|exact⟨rfl,trivial⟩|(rw[Ah o_];first|exact⟨rfl,rfl⟩|exact⟨rfl,trivial⟩)|(simp only[Vb,Abx];rw[Ah o_];first|exact⟨rfl,rfl⟩|exact⟨rfl,trivial⟩)))
abbrev EA (p:C_):LInv:=⟨[⟨.b,3,true,.el .page⟩,⟨.s,4,true,.el .int⟩,⟨.b,2,true,.el .page⟩],λ(z x:cm)=>(advInv p x.1 x.2.1)/\x.2.2.1=z.2.2.1,λ(x:cm)=>(2000-x.2.1).toNat⟩
def Akw:=AkA.a Ej<|Fct.p (KP [1,2,3,4,5,6] [10,19,26]) (λ⟨p,_⟩=>lv [(3,EA p)]) AkA.2 func40 (by
 rintro⟨(p:C_),_⟩ hp;refine ho (.cl AA (p,()) λz2=>lpx (EA p) (z2.1,((0:Int),(default,()))) λ(y2:cm) bk2=>.br (decide (y2.2.1<2000)) (.cl Bn (y2.1,()) λz3=>.br (!z3.2.1) (.cl CB (y2.1,()) λz4=>.br (!z4.2.1) (.lf Ej (y2.1,())) (.bk (bk2 (z4.1,(w1 y2.2.1,(y2.2.2.1,())))))) (.br (!z3.2.1) (.lf Ej (y2.1,())) (.bk (bk2 (z3.1,(w1 y2.2.1,(y2.2.2.1,()))))))) (.lf Ej (y2.1,()))) ?_;refine Ae ?_ λ_=>(Am ?_ λ(y2:cm) i2=>Aa (λh3=>Ae ?_ λ_=>Aa (λh5=>Ae ?_ λ_=>Aa (λh7=>lfY ?_) λh7=>AR ?_) λh5=>Aa (λh9=>lfY ?_) λh9=>AR ?_) λh3=>lfY ?_)<;>(have hq:okAdv p:=hp;have h0:=(I8 (J2 hq)).1.1.1;try simp only[std,Nat.reduceAdd] at *)<;>(first|trivial|omega|skip)<;>(first|exact J2 hq|exact⟨J2 hq,rfl⟩|(obtain⟨i3,e1⟩:=i2;have ht:=I8 i3))<;>(first|exact ht|exact ht.1|exact(tf ‹_› ‹_›).elim|skip)<;>(first|exact IK i3 (λh=>absurd h o_)|exact IK i3 (λ_=>by rw[Mu ‹_›];assumption)|skip)<;>rw[Ah (by have:=i3.1;omega)]<;>(first|(have e:=Ln i3 ‹_› (by rw[Mu ‹_›];assumption);rw[Mu ‹_›] at e;exact⟨⟨e,e1⟩,o_⟩)|(have e:=Ln i3 ‹_› (by rw[RJ ‹_›];assumption);rw[RJ ‹_›] at e;exact⟨⟨e,e1⟩,o_⟩)))
def Ajw:=Akw.a CN<|Fct.o (KP [1,2,3,4,5] [11,27]) Akw.2 func7 (by
 rintro⟨(l:N_),_⟩ hp;refine ho (.cl A9 (l,()) λz2=>.br ((l.parts.length:Int)==0) (.lf CN (z2.1,false,())) (.ob ((0:Int)<=(0:Int)/\(0:Int)<(l.parts.length:Int))<|.cl D4 (z2.1.page,l.parts.getD 0 default,()) λz3=>.ob ((0:Int)<=(1:Int)/\(1:Int)<=(z2.1.parts.length:Int))<|.br ((↑(z2.1.parts.length-1):Int)==0) (.cl HU (z3.1,()) λz4=>.cl Ej (z4.1,()) λz5=>.ob (1+(z2.1.parts.length-1)<=z2.1.parts.length)<|.lf CN (⟨z2.1.net,z5.1,cut z2.1.parts 1 (z2.1.parts.length-1),z2.1.conns,z2.1.guesses⟩,true,())) (.cl Ej (z3.1,()) λz6=>.ob (1+(z2.1.parts.length-1)<=z2.1.parts.length)<|.lf CN (⟨z2.1.net,z6.1,cut z2.1.parts 1 (z2.1.parts.length-1),z2.1.conns,z2.1.guesses⟩,true,())))) ?_;refine Ae ?_ λ_=>(Aa (λh2=>lfY ?_) λh2=>Ab ?_ λ_=>Ae ?_ λ_=>Ab ?_ λ_=>Aa (λh6=>Ae ?_ λ_=>Ae ?_ λ_=>Ab ?_ λ_=>lfY ?_) λh6=>Ae ?_ λ_=>Ab ?_ λ_=>lfY ?_)<;>have hq:okArr l:=hp<;>obtain⟨hsz1,hsz2,hsz3⟩:=hq.1<;>(have hpg:Aj l.page<=1000000000000:=by(obtain⟨Q,M,R,h1,h2,h3,h4⟩:=hq.2.2;exact JR h1 o_ h3 h4))<;>(have hpl:l.parts.length<=2900000:=by(have h1:=hq.2.1;have:=Ac Af l.parts;omega))<;>(try simp only[std,Nat.reduceAdd] at *)<;>(first|trivial|omega|(rw[AbT o_];exact⟨rfl,rfl⟩)|(obtain⟨g1,g2,g3,g4,g5⟩:=VN hq o_)|skip)<;>(first|trivial|omega|exact⟨g1,g2,g3⟩|skip)<;>(first|(rw[RU o_] at g5;first|exact g5|(rw[OI o_,RU o_,K7];exact⟨rfl,rfl⟩))|(rw[Q0 o_] at g5;first|exact g5|(rw[OI o_,Q0 o_,K7];exact⟨rfl,rfl⟩))))
def K5 (p:aN) (r:ar) (x:R_):(usable p r x).1.size<=400:=by
 unfold usable;split
 ·rename_i h;by_cases hi:isResponse x=true
  ·unfold isResponse at hi;simp only[Z_,aH] at hi;exact hi.2.2.1
  ·exfalso;unfold checkResponse at h;split at h
   ·cases h
   ·rw[I_ (.inl (by simpa using hi))] at h;cases h
 ·exact Nat.zero_le _
def Vd {α:Type} (f:α->α) (m:α) (B:List α):∀ A:List α,(A++m::B).modify A.length f=A++f m::B
 | []=>rfl
 | a::A=>congrArg (List.cons a) (Vd f m B A)
def HE {α:Type} [Inhabited α] (f:α->α) {l:List α} {i:Nat} (h:i<l.length):l.modify i f=l.take i++f (l.getD i default)::l.drop (i+1):=by
 have e:(l.take i).length=i:=by rw[bS];omega
 have:=Vd f (l.getD i default) (l.drop (i+1)) (l.take i);rw[e,<-HO h,eg] at this;exact this
def Ix {α:Type} (f g:α->α):∀ (l:List α) (i:Nat),(l.modify i f).modify i g=l.modify i λz=>g (f z)
 | [],0=>rfl
 | [],_+1=>rfl
 | _::_,0=>rfl
 | a::l,i+1=>congrArg (List.cons a) (Ix f g l i)
def L9 {p:C_} {k:Int} (h0:0<=k) (h:k<p.bf.length):slotRequest p k=reqOf p (p.bf.getD k.toNat default):=by unfold slotRequest;rw[I_ ⟨h0,h⟩];rfl
def Aes {p:C_} {k:Int} {x:R_} (h0:0<=k) (h:k<p.bf.length) (hd:(p.bf.getD k.toNat default).done=false):(((p.bf.modify k.toNat λz=>(⟨z.mode,z.to,z.digest,z.node,true,z.code,z.body⟩:ay)).modify k.toNat λz=>(⟨z.mode,z.to,z.digest,z.node,z.done,checkResponse p.bj (slotRequest p k) x,z.body⟩:ay)).modify k.toNat λz=>(⟨z.mode,z.to,z.digest,z.node,z.done,z.code,(usable p.bj (slotRequest p k) x).1⟩:ay))=p.bf.modify k.toNat (fillS p x):=by
 have hi:k.toNat<p.bf.length:=o_
 rw[Ix,Ix,HE _ hi,HE _ hi,L9 h0 h];unfold fillS;rw[J_ (by rw[hd];decide)]
def PR {p:C_} {k:Int} {x:R_} (h0:0<=k) (h:k<p.bf.length) (hd:(p.bf.getD k.toNat default).done=true):fillSlot p k x=p:=by
 have hi:k.toNat<p.bf.length:=o_
 have e:p.bf.modify k.toNat (fillS p x)=p.bf:=by rw[HE _ hi];unfold fillS;rw[I_ hd,<-HO hi,eg]
 unfold fillSlot;rw[I_ ⟨h0,h⟩,e]
def Anz:=Ajw.a GU<|Fct.o (KP [1,3,5,6,7,8] [25]) Ajw.2 func264 (by
 rintro⟨(p:C_),(k:Int),(x:R_),_⟩ hp;refine ho (.cl AA (p,()) λz2=>let E_:Out:=.lf GU (z2.1,());.cl Au (k,(0:Int),wr ((p.bf.length:Int)-(1:Int)),()) λz3=>.br (!z3.1) E_ (.ob (inB k p.bf.length)<|.br ((p.bf.getD (Int.toNat k) default).done) E_ (.cl Bs (p,k,()) λz4=>.ob (inB k z2.1.bf.length)<|.ob (Int.toNat k<z2.1.bf.length)<|.lt (List ay) (z2.1.bf.modify (Int.toNat k) λz=>({z with done:=true}:ay)) λz5=>.cl Ap (p.bj,z4.1,x,()) λ(z6:B_)=>.ob (inB k z5.length)<|.ob (Int.toNat k<z5.length)<|.lt (List ay) (z5.modify (Int.toNat k) λz=>({z with code:=z6.1}:ay)) λz7=>.cl CL (p.bj,z4.1,x,()) λz8=>.ob (inB k z7.length)<|.ob (Int.toNat k<z7.length)<|.lt (List ay) (z7.modify (Int.toNat k) λz=>({z with body:=z8.1}:ay)) λz9=>.lf GU ({z2.1 with bf:=z9},())))) ?_;refine Ae ?_ λ_=>(Ae trivial λ_=>Aa (λh2=>lfY ?_) λh2=>Ab ?_ λ_=>Aa (λh4=>lfY ?_) λh4=>Ae ?_ λ_=>Ab ?_ λ_=>Ab ?_ λ_=>DS (Ae ?_ λ_=>Ab ?_ λ_=>Ab ?_ λ_=>DS (Ae ?_ λ_=>Ab ?_ λ_=>Ab ?_ λ_=>DS (lfY ?_))))<;>obtain⟨q1,q2,q3,q4,q5,q6,q7⟩:=(show Aj p<=1000000000000/\p.addr.host.size<=4000000000/\(∀ i,i<p.bf.length->AO (p.bf.getD i default)<=50000000000)/\-9223372036854775808<=k/\k<=9223372036854775807/\x.bj.size<=200000000/\x.body.size<=1000000000 from hp)<;>(have hl:p.bf.length<=1000000000000:=by have:=Ac AO p.bf;simp only[Aj] at q1;omega)<;>(have hpo:AQ p.bj<=1000000000000:=by simp only[Aj] at q1;omega)<;>(try simp only[std,Nat.reduceAdd,inRange] at *)<;>(try rw[Ah o_] at h2)<;>(try simp only[Z_,ep,aH,ca] at h2)<;>(first|trivial|omega|(unfold fillSlot;rw[J_ o_])|exact(PR o_ o_ ‹_›).symm|(simp only[fE];omega)|skip)<;>(first|(rw[L9 o_ o_];have:=q3 k.toNat o_;simp only[AO] at this;exact⟨o_,by simp only[BE,reqOf];simp only[szAddr] at *;omega,q6,q7⟩)|(unfold fillSlot;rw[I_ o_,<-Aes o_ o_ ‹_›])))
def Aki:=Anz.a GU<|Fct.o (KP [1,3,5,6,7,8] [27]) Anz.2 func229 (by
 rintro⟨(p:C_),(k:Int),(x:R_),_⟩ hp;refine ho (.cl AA (p,()) λz2=>let E_:Out:=.lf GU (z2.1,());.br (decide (k<0)) E_ (.br (decide (k>=(p.bf.length:Int))) E_ (.ob (inB k p.bf.length)<|.br ((p.bf.getD (Int.toNat k) default).done) E_ (.cl Bs (p,k,()) λz3=>.ob (inB k z2.1.bf.length)<|.ob (Int.toNat k<z2.1.bf.length)<|.lt (List ay) (z2.1.bf.modify (Int.toNat k) λz=>({z with done:=true}:ay)) λz4=>.cl Ap (p.bj,z3.1,x,()) λ(z5:B_)=>.ob (inB k z4.length)<|.ob (Int.toNat k<z4.length)<|.lt (List ay) (z4.modify (Int.toNat k) λz=>({z with code:=z5.1}:ay)) λz6=>.cl CL (p.bj,z3.1,x,()) λz7=>.ob (inB k z6.length)<|.ob (Int.toNat k<z6.length)<|.lt (List ay) (z6.modify (Int.toNat k) λz=>({z with body:=z7.1}:ay)) λz8=>.lf GU ({z2.1 with bf:=z8},()))))) ?_;refine Ae ?_ λ_=>(Aa (λh2=>lfY ?_) λh2=>Aa (λh3=>lfY ?_) λh3=>Ab ?_ λ_=>Aa (λh5=>lfY ?_) λh5=>Ae ?_ λ_=>Ab ?_ λ_=>Ab ?_ λ_=>DS (Ae ?_ λ_=>Ab ?_ λ_=>Ab ?_ λ_=>DS (Ae ?_ λ_=>Ab ?_ λ_=>Ab ?_ λ_=>DS (lfY ?_))))<;>obtain⟨q1,q2,q3,q4,q5,q6,q7⟩:=(show Aj p<=1000000000000/\p.addr.host.size<=4000000000/\(∀ i,i<p.bf.length->AO (p.bf.getD i default)<=50000000000)/\-9223372036854775808<=k/\k<=9223372036854775807/\x.bj.size<=200000000/\x.body.size<=1000000000 from hp)<;>(have hl:p.bf.length<=1000000000000:=by have:=Ac AO p.bf;simp only[Aj] at q1;omega)<;>(have hpo:AQ p.bj<=1000000000000:=by simp only[Aj] at q1;omega)<;>(try simp only[std,Nat.reduceAdd,inRange] at *)<;>(try rw[Ah o_] at h2)<;>(try simp only[Z_,ep,aH,ca] at h2)<;>(first|trivial|omega|(unfold fillSlot;rw[J_ o_])|exact(PR o_ o_ ‹_›).symm|(simp only[fE];omega)|skip)<;>(first|(rw[L9 o_ o_];have:=q3 k.toNat o_;simp only[AO] at this;exact⟨o_,by simp only[BE,reqOf];simp only[szAddr] at *;omega,q6,q7⟩)|(unfold fillSlot;rw[I_ o_,<-Aes o_ o_ ‹_›])))
def fillF (p:C_) (a:D_) (x:R_) (s:ay):ay:=if s.to=a then fillS p x s else s
def fillTo (p:C_) (a:D_) (x:R_) (i:Nat):C_:={ p with bf:=(p.bf.take i).map (fillF p a x)++p.bf.drop i }
def fillAll (p:C_) (a:D_) (x:R_):C_:={ p with bf:=p.bf.map (fillF p a x)}
def und1 (s:ay):Nat:=if s.done=true then 0 else 1
def WY (p:C_) (a:D_) (x:R_) (s:ay):AO (fillF p a x s)+400*und1 (fillF p a x s)<=AO s+400*und1 s/\(fillF p a x s).body.size<=s.body.size+400/\(s.body.size<=2000000->(fillF p a x s).body.size<=2000000):=by
 unfold fillF;split
 ·unfold fillS;split
  ·exact⟨aa _,o_,id⟩
  ·rename_i h;have hu:=K5 p.bj (reqOf p s) x;refine⟨?_,by dsimp only;omega,λ_=>by dsimp only;omega⟩;unfold und1 AO;dsimp only;rw[I_ rfl,J_ h];omega
 ·exact⟨aa _,o_,id⟩
def VM (p:C_) (a:D_) (x:R_):∀ l:List ay,szL AO (l.map (fillF p a x))+400*undS (l.map (fillF p a x))<=szL AO l+400*undS l
 | []=>aa _
 | s::l=>by have h:=VM p a x l;have h1:=(WY p a x s).1;rw[bZ,Ag,Ag,undS,undS];unfold und1 at h1;omega
def Af9 (l:List ay) (i:Nat):undS (l.take i)+undS (l.drop i)=undS l:=by rw[<-Nw,eg]
def NI {p:C_} {Q M R:Nat} (h:okAll p Q M R) (a:D_) (x:R_) (i:Nat):okAll (fillTo p a x i) Q M R:=by
 obtain⟨h1,h2,⟨h3,h4⟩,h5,h6,h7⟩:=h;refine⟨h1,h2,⟨?_,λs hs=>?_⟩,h5,h6,h7⟩
 ·unfold slotP at *
  have e1:=Aap AO p.bf i;have e2:=Af9 p.bf i;have e3:=VM p a x (p.bf.take i);have e4:((p.bf.take i).map (fillF p a x)++p.bf.drop i).length=p.bf.length:=by rw[al,eh,<-al,eg]
  show szL AO ((p.bf.take i).map (fillF p a x)++p.bf.drop i)+400*undS ((p.bf.take i).map (fillF p a x)++p.bf.drop i)+500000800*(20-((p.bf.take i).map (fillF p a x)++p.bf.drop i).length)<=_;rw[Cr,Nw,e4];omega
 ·rcases aR.1 hs with q|q
  ·obtain⟨s0,q0,rfl⟩:=eu.1 q;exact(WY p a x s0).2.2 (h4 s0 (gu q0))
  ·exact h4 s (gw q)
def WZ (p:C_) (a:D_) (x:R_):fillTo p a x 0=p:=rfl
def JX {p:C_} {a:D_} {x:R_} {i:Nat} (h:p.bf.length<=i):fillTo p a x i=fillAll p a x:=by
 unfold fillTo fillAll;rw[ct h,bR h,cF]
def Xt (p:C_) (a:D_) (x:R_) (i:Nat):(fillTo p a x i).bf.length=p.bf.length:=by
 show((p.bf.take i).map (fillF p a x)++p.bf.drop i).length=_;rw[al,eh,<-al,eg]
def O8 {p:C_} {a:D_} {x:R_} {i:Nat} (h:i<p.bf.length):fillTo p a x (i+1)={ p with bf:=(p.bf.take i).map (fillF p a x)++fillF p a x (p.bf.getD i default)::p.bf.drop (i+1)}:=by
 unfold fillTo;rw[S_ h,List.map_append,bB];rfl
def NU {p:C_} {a:D_} {x:R_} {i:Nat} (h:i<p.bf.length) (hs:¬ (p.bf.getD i default).to=a\/(p.bf.getD i default).done=true):fillTo p a x (i+1)=fillTo p a x i:=by
 have e:fillF p a x (p.bf.getD i default)=p.bf.getD i default:=by
  unfold fillF;rcases hs with hs|hs
  ·rw[J_ hs]
  ·split
   ·unfold fillS;rw[I_ hs]
   ·rfl
 rw[O8 h,e,<-HO h];rfl
def YT {p:C_} {a:D_} {x:R_} {i:Nat} (h:i<p.bf.length) (hs:(p.bf.getD i default).to=a):fillSlot (fillTo p a x i) (i:Int) x=fillTo p a x (i+1):=by
 unfold fillSlot;rw[Xt,I_ o_,O8 h];have e:fillF p a x (p.bf.getD i default)=fillS p x (p.bf.getD i default):=by unfold fillF;rw[I_ hs]
 have el:((p.bf.take i).map (fillF p a x)).length=i:=by rw[eh,bS];omega
 show({ p with bf:=((p.bf.take i).map (fillF p a x)++p.bf.drop i).modify (i:Int).toNat (fillS p x)}:C_)=_;have:=Vd (fillS p x) (p.bf.getD i default) (p.bf.drop (i+1)) ((p.bf.take i).map (fillF p a x));rw[el] at this;rw[HO h,fw,this,e]
def Cy {p:C_} (h:okAdv p):Aj p<=1000000000000/\AQ p.bj+szAddr p.addr<=4000000/\p.bf.length<=100000000000/\(∀ i,i<p.bf.length->AO (p.bf.getD i default)<=50000000000)/\p.bh.length<=60000000000/\okMb p:=by
 obtain⟨Q,M,R,h1,h2,h3,h4⟩:=h;have hz:=JR h1 o_ h3 h4;have hs:szL AO p.bf<=13000000000:=by have:=h1.2.2.1.1;unfold slotP at this;omega
 have hm:szL AF p.bh<=50000000000:=by have:=h1.2.2.2.1.2.1;unfold modP at this;omega
 have l1:=Ac AO p.bf;have l2:=Ac AF p.bh;refine⟨hz,h1.2.2.2.2.2.1,o_,λi hi=>?_,o_,λi hi=>?_⟩
 ·have:=C6 AO hi;omega
 ·have:=h1.2.2.2.1.2.2.2 _ (AH hi);omega
def PD {p:C_} (h:okAdv p) (a:D_) (x:R_) (i:Nat):okAdv (fillTo p a x i):=by
 obtain⟨Q,M,R,h1,h2⟩:=h;exact⟨Q,M,R,NI h1 a x i,h2⟩
def PM {p:C_} {a:D_} {x:R_} {k:Int} (h0:0<=k) (h:k<p.bf.length) (hs:(p.bf.getD k.toNat default).to=a):fillSlot (fillTo p a x k.toNat) k x=fillTo p a x (k.toNat+1):=by
 obtain⟨i,rfl⟩:∃ i:Nat,k=i:=⟨k.toNat,o_⟩;exact YT o_ hs
abbrev Lf:Fct:=⟨[.v (.el .page),.v (.el .addr),.v (.el .bd)],[.el .page],λ(x:cK)=>okAdv x.1/\x.2.2.1.bj.size<=200000000/\x.2.2.1.body.size<=1000000000,λ(x:cK)=>(fillAll x.1 x.2.1 x.2.2.1,())⟩
abbrev EL (p:C_) (a:D_) (x:R_):LInv:=⟨[⟨.b,7,true,.el .page⟩,⟨.s,8,true,.el .int⟩,⟨.b,3,false,.el .page⟩,⟨.b,4,true,.el .addr⟩,⟨.b,5,true,.el .bd⟩,⟨.b,6,true,.el .page⟩],λ(z x_:cn)=>((((0<=x_.2.1/\x_.2.1<=p.bf.length/\x_.1=fillTo p a x x_.2.1.toNat)/\x_.2.2.1=z.2.2.1)/\x_.2.2.2.1=z.2.2.2.1)/\x_.2.2.2.2.1=z.2.2.2.2.1)/\x_.2.2.2.2.2.1=z.2.2.2.2.2.1,λ(x_:cn)=>p.bf.length-x_.2.1.toNat⟩
def Anr:=Aki.a Lf<|Fct.p (KP [3,4,5,6,7,8] [15,34]) (λ⟨p,a,x,_⟩=>lv [(3,EL p a x)]) Aki.2 func161 (by
 rintro⟨(p:C_),(a:D_),(x:R_),_⟩ hp;refine ho (.cl AA (p,()) λz2=>lpx (EL p a x) (z2.1,((0:Int),(p,(a,(x,(default,())))))) λ(y2:cn) bk2=>let L_:=inB y2.2.1 y2.2.2.1.bf.length;let H_:=y2.2.2.1.bf.getD y2.2.1.toNat default;let E_:Out:=.bk (bk2 (y2.1,(w1 y2.2.1,(y2.2.2.1,(y2.2.2.2.1,(y2.2.2.2.2.1,(y2.2.2.2.2.2.1,())))))));.br (decide (y2.2.1<(y2.2.2.1.bf.length:Int))) (.ob L_<|.br (!H_.done) (.ob L_<|.br (H_.to.host==y2.2.2.2.1.host&&(H_.to.path==y2.2.2.2.1.path&&true)) (.cl GU (y2.1,y2.2.1,y2.2.2.2.2.1,()) λz3=>.bk (bk2 (z3.1,(w1 y2.2.1,(y2.2.2.1,(y2.2.2.2.1,(y2.2.2.2.2.1,(y2.2.2.2.2.2.1,())))))))) E_) E_) (.lf Lf (y2.1,()))) ?_;refine Ae ?_ λ_=>(Am ?_ λ(y2:cn) i2=>Aa (λh3=>Ab ?_ λ_=>Aa (λh5=>Ab ?_ λ_=>Aa (λh7=>Ae ?_ λ_=>AR ?_) λh7=>AR ?_) λh5=>AR ?_) λh3=>lfY ?_)<;>obtain⟨q1,q2,q3⟩:=(show okAdv p/\x.bj.size<=200000000/\x.body.size<=1000000000 from hp)<;>(have hok:=Cy q1;try simp only[std,Nat.reduceAdd] at *)<;>(first|trivial|omega|exact⟨o_,o_,(WZ p a x).symm⟩|skip)<;>(obtain⟨⟨⟨⟨⟨a1,a2,a3⟩,e1⟩,e2⟩,e3⟩,e4⟩:=i2;simp only[a3,e1,e2,e3,Ev,aH,ca] at *)<;>(first|trivial|omega|(rw[JX o_])|skip)<;>(have hk:=Cy (PD q1 a x y2.2.1.toNat);have hh:(fillTo p a x y2.2.1.toNat).addr.host.size<=4000000:=by have:=hk.2.1;simp only[szAddr] at this;omega)<;>(first|exact⟨hk.1,o_,hk.2.2.2.1,o_,o_,q2,q3⟩|skip)<;>rw[Ah o_,show(y2.2.1+1).toNat=y2.2.1.toNat+1 from o_]<;>(first|(rw[PM a1 o_ ‹_›];exact⟨⟨⟨⟨⟨⟨o_,o_,rfl⟩,by trivial⟩,by trivial⟩,by trivial⟩,e4⟩,o_⟩)|(rw[NU o_ (by first|exact .inl ‹_›|exact .inr ‹_›)];exact⟨⟨⟨⟨⟨⟨o_,o_,rfl⟩,by trivial⟩,by trivial⟩,by trivial⟩,e4⟩,o_⟩)|skip))
abbrev ED (p:C_) (a:D_) (x:R_):LInv:=⟨[⟨.b,7,true,.el .page⟩,⟨.s,14,true,.el .int⟩,⟨.b,3,false,.el .page⟩,⟨.b,4,true,.el .addr⟩,⟨.b,5,true,.el .bd⟩,⟨.b,6,true,.el .page⟩],λ(z x_:cn)=>((((0<=x_.2.1/\x_.2.1<=p.bf.length/\x_.1=fillTo p a x x_.2.1.toNat)/\x_.2.2.1=z.2.2.1)/\x_.2.2.2.1=z.2.2.2.1)/\x_.2.2.2.2.1=z.2.2.2.2.1)/\x_.2.2.2.2.2.1=z.2.2.2.2.2.1,λ(x_:cn)=>p.bf.length-x_.2.1.toNat⟩
def Anv:=Anr.a Lf<|Fct.p (KP [3,4,5,6,7,8,13,14] [15,24]) (λ⟨p,a,x,_⟩=>lv [(3,ED p a x)]) Anr.2 func130 (by
 rintro⟨(p:C_),(a:D_),(x:R_),_⟩ hp;refine ho (.cl AA (p,()) λz2=>lpx (ED p a x) (z2.1,((0:Int),(p,(a,(x,(default,())))))) λ(y2:cn) bk2=>.br (decide (y2.2.1<(p.bf.length:Int))) (.ob (inB y2.2.1 y2.2.2.1.bf.length)<|.br ((y2.2.2.1.bf.getD y2.2.1.toNat default).to.host==y2.2.2.2.1.host&&((y2.2.2.1.bf.getD y2.2.1.toNat default).to.path==y2.2.2.2.1.path&&true)) (.cl GU (y2.1,y2.2.1,y2.2.2.2.2.1,()) λz3=>.re (Value.int IntKind.i64 (p.bf.length:Int))<|.bk (bk2 (z3.1,(w1 y2.2.1,(y2.2.2.1,(y2.2.2.2.1,(y2.2.2.2.2.1,(y2.2.2.2.2.2.1,())))))))) (.re (Value.int IntKind.i64 (p.bf.length:Int))<|.bk (bk2 (y2.1,(w1 y2.2.1,(y2.2.2.1,(y2.2.2.2.1,(y2.2.2.2.2.1,(y2.2.2.2.2.2.1,()))))))))) (.lf Lf (y2.1,()))) ?_;refine Ae ?_ λ_=>(Am ?_ λ(y2:cn) i2=>Aa (λh3=>Ab ?_ λ_=>Aa (λh5=>Ae ?_ λ_=>(Ai<|AR ?_)) λh5=>Ai<|AR ?_) λh3=>lfY ?_)<;>obtain⟨q1,q2,q3⟩:=(show okAdv p/\x.bj.size<=200000000/\x.body.size<=1000000000 from hp)<;>(have hok:=Cy q1;try simp only[std,Nat.reduceAdd] at *)<;>(first|trivial|omega|exact⟨o_,o_,(WZ p a x).symm⟩|skip)<;>(obtain⟨⟨⟨⟨⟨a1,a2,a3⟩,e1⟩,e2⟩,e3⟩,e4⟩:=i2;simp only[a3,e1,e2,e3,Ev,aH,ca] at *)<;>(first|trivial|omega|(rw[JX o_])|skip)<;>(have hk:=Cy (PD q1 a x y2.2.1.toNat);have hh:(fillTo p a x y2.2.1.toNat).addr.host.size<=4000000:=by have:=hk.2.1;simp only[szAddr] at this;omega)<;>(first|exact⟨hk.1,o_,hk.2.2.2.1,o_,o_,q2,q3⟩|skip)<;>rw[Ah o_,show(y2.2.1+1).toNat=y2.2.1.toNat+1 from o_]<;>(first|(rw[PM a1 o_ ‹_›];exact⟨⟨⟨⟨⟨⟨o_,o_,rfl⟩,by trivial⟩,by trivial⟩,by trivial⟩,e4⟩,o_⟩)|(rw[NU o_ (by first|exact .inl ‹_›|exact .inr ‹_›)];exact⟨⟨⟨⟨⟨⟨o_,o_,rfl⟩,by trivial⟩,by trivial⟩,by trivial⟩,e4⟩,o_⟩)|skip))
def fillM (p:C_) (x:R_) (m:Y_):Y_:={ m with done:=true,code:=checkResponse p.bj ⟨5,m.to,p.addr.host,⟨#[]⟩⟩ x,body:=(usable p.bj ⟨5,m.to,p.addr.host,⟨#[]⟩⟩ x).1 }
def fillM0 (p:C_) (a:D_) (x:R_):C_:={ p with bh:=p.bh.modify (findMod p.bh a).toNat (fillM p x)}
def fillModule (p:C_) (a:D_) (x:R_):C_:=if findMod p.bh a<0\/(p.bh.getD (findMod p.bh a).toNat default).done=true then p else(imports (fillM0 p a x) a).1.foldl askModule (fillM0 p a x)
def NY {p:C_} {Q M R:Nat} (h:okAll p Q M R) (a:D_) (x:R_) (h0:0<=findMod p.bh a) (hd:(p.bh.getD (findMod p.bh a).toNat default).done=false):okAll (fillM0 p a x) Q M R:=by
 have hf:=BJ p.bh a;have hi:(findMod p.bh a).toNat<p.bh.length:=o_
 obtain⟨h1,h2,h3,⟨h4,h5,h6,h7⟩,h8⟩:=h;have hu:=K5 p.bj ⟨5,(p.bh.getD (findMod p.bh a).toNat default).to,p.addr.host,⟨#[]⟩⟩ x;have e:=HE (fillM p x) hi;have t1:=Aap AF p.bh (findMod p.bh a).toNat;have t2:=ZG p.bh (findMod p.bh a).toNat;have t3:=AeD p.ran p.bh (findMod p.bh a).toNat;rw[HO hi] at t1 t2 t3;rw[Ag] at t1;rw[undM,hd,J_ (by decide)] at t2;rw[nrL] at t3;refine⟨h1,h2,h3,⟨h4,?_,?_,λm hm=>?_⟩,h8⟩
 ·unfold modP at *
  show szL AF (p.bh.modify (findMod p.bh a).toNat (fillM p x))+500*undM (p.bh.modify (findMod p.bh a).toNat (fillM p x))+600*(20-p.bg.length)<=M;rw[e,Cr,Ag,Nr,undM];have e1:AF (fillM p x (p.bh.getD (findMod p.bh a).toNat default))<=AF (p.bh.getD (findMod p.bh a).toNat default)+400:=by unfold AF fillM;dsimp only;omega
  have e2:(fillM p x (p.bh.getD (findMod p.bh a).toNat default)).done=true:=rfl;rw[I_ e2];omega
 ·unfold ranP at *
  show szL szAddr p.ran+nrL p.ran (p.bh.modify (findMod p.bh a).toNat (fillM p x))+100*(20-p.bg.length)<=R;rw[e,QG,nrL];have e3:(fillM p x (p.bh.getD (findMod p.bh a).toNat default)).to=(p.bh.getD (findMod p.bh a).toNat default).to:=rfl;rw[e3];omega
 ·have hm:m∈p.bh.modify (findMod p.bh a).toNat (fillM p x):=hm;rw[e] at hm;rcases aR.1 hm with q|q
  ·exact h7 m (gu q)
  ·rcases cp.1 q with q|q
   ·rw[q];exact bT hu (by decide)
   ·exact h7 m (gw q)
def Aer {p:C_} {Q M R:Nat} (h:okAll p Q M R) {b:D_} (hb:b.host.size<=8/\b.path.size<=8):okAll (askModule p b) Q (M+600) (R+20):=by
 obtain⟨h1,h2,h3,⟨h4,h5,h6,h7⟩,h8⟩:=h;obtain⟨a1,a2,a3,a4,a5⟩:=Aey p b;have hs:szAddr b<=16:=by unfold szAddr;omega
 rw[a5];refine⟨h1,h2,h3,⟨h4,?_,?_,λm hm=>?_⟩,h8⟩
 ·unfold modP at *;dsimp only;omega
 ·unfold ranP at *;dsimp only;omega
 ·rcases a4 m hm with q|q
  ·exact h7 m q
  ·omega
def Vg {Q:Nat}:∀ (l:List D_) (p:C_) (M R:Nat),okAll p Q M R->(∀ b,b∈l->b.host.size<=8/\b.path.size<=8)->okAll (l.foldl askModule p) Q (M+600*l.length) (R+20*l.length)
 | [],p,M,R,h,_=>h
 | b::l,p,M,R,h,hb=>by
  have:=Vg l (askModule p b) (M+600) (R+20) (Aer h (hb b cZ)) λc hc=>hb c (cJ _ hc)
  rw[List.foldl_cons,aw];rw[show M+600*(l.length+1)=M+600+600*l.length from o_,show R+20*(l.length+1)=R+20+20*l.length from o_];exact this
def IJ (p:C_) (a:D_) (x:R_) (h0:0<=findMod p.bh a):findMod (fillM0 p a x).bh a=findMod p.bh a/\(fillM0 p a x).bh.getD (findMod p.bh a).toNat default=fillM p x (p.bh.getD (findMod p.bh a).toNat default):=by
 have hf:=BJ p.bh a;have hi:(findMod p.bh a).toNat<p.bh.length:=o_
 have gen:∀ (l:List Y_) (k:Int) (i:Nat) (f:Y_->Y_),(∀ m,(f m).to=m.to)->fidx (λm:Y_=>decide (m.to=a)) (l.modify i f) k=fidx (λm:Y_=>decide (m.to=a)) l k:=by
  intro l
  induction l with
  | nil=>intro k i f hf;cases i<;>rfl
  | cons m l ih=>
   intro k i f hf;cases i with
   | zero=>
    show fidx _ (f m::l) k=_;rw[fidx,fidx,hf m]
   | succ i=>
    show fidx _ (m::l.modify i f) k=_;rw[fidx,fidx,ih (k+1) i f hf]
 refine⟨gen p.bh 0 _ _ λ_=>rfl,?_⟩;show(p.bh.modify (findMod p.bh a).toNat (fillM p x)).getD (findMod p.bh a).toNat default=_;rw[HE _ hi];have e:(p.bh.take (findMod p.bh a).toNat).length=(findMod p.bh a).toNat:=by rw[bS];omega
 rw[cd,cD o_,e,Nat.sub_self];rfl
def MG {p:C_} {a:D_} {x:R_} (h0:0<=findMod p.bh a):(∀ b,b∈(imports (fillM0 p a x) a).1->b.host.size<=8/\b.path.size<=8)/\(imports (fillM0 p a x) a).1.length<=400:=by
 obtain⟨h1,h2⟩:=Fq (fillM0 p a x) a;refine⟨h1,?_⟩;obtain⟨f1,f2⟩:=IJ p a x h0;rw[f1,f2] at h2;have hu:=K5 p.bj ⟨5,(p.bh.getD (findMod p.bh a).toNat default).to,p.addr.host,⟨#[]⟩⟩ x;rcases h2 with h2|⟨_,h2⟩
 ·rw[h2];exact Nat.zero_le _
 ·exact bT h2 hu
def QR {p:C_} {Q M R:Nat} (h:okAll p Q M R) (a:D_) (x:R_):okAll (fillModule p a x) Q (M+240000) (R+8000):=by
 have mono:∀ {q:C_} {M' R':Nat},okAll q Q M' R'->M'<=M+240000->R'<=R+8000->okAll q Q (M+240000) (R+8000):=λh hM hR=>by obtain⟨h1,h2,h3,⟨h4,h5,h6,h7⟩,h8⟩:=h;exact⟨h1,h2,h3,⟨h4,o_,o_,h7⟩,h8⟩
 unfold fillModule;split
 ·exact mono h o_ o_
 ·rename_i hc;have h0:0<=findMod p.bh a:=o_
  have hd:(p.bh.getD (findMod p.bh a).toNat default).done=false:=by
   cases hq:(p.bh.getD (findMod p.bh a).toNat default).done with
   | false=>rfl
   | true=>exact absurd (.inr hq) hc
  obtain⟨i1,i2⟩:=MG (x:=x) h0;exact mono (Vg _ _ M R (NY h a x h0 hd) i1) o_ o_
def fmInv (p:C_) (a:D_) (x:R_) (q:C_) (i:Int):Prop:=0<=i/\i<=(imports (fillM0 p a x) a).1.length/\((imports (fillM0 p a x) a).1.drop i.toNat).foldl askModule q=(imports (fillM0 p a x) a).1.foldl askModule (fillM0 p a x)/\∃ Q M R,okAll q Q (M+600*i.toNat) (R+20*i.toNat)/\Q<=899000000000/\M<=49000000000/\R<=19000000000
def okFM (p:C_):Prop:=∃ Q M R,okAll p Q M R/\Q<=899000000000/\M<=49000000000/\R<=19000000000
def Fb {p:C_} (h:okFM p):okAdv p:=by
 obtain⟨Q,M,R,h1,h2,h3,h4⟩:=h;exact⟨Q,M,R,h1,h2,o_,o_⟩
def Lz {p q:C_} {a:D_} {x:R_} {i:Int} (h:fmInv p a x q i) (hi:(imports (fillM0 p a x) a).1.length<=400):okAdv q:=by
 obtain⟨h1,h2,_,Q,M,R,h3,h4,h5,h6⟩:=h;exact⟨Q,_,_,h3,h4,o_,o_⟩
def OB {p:C_} {a:D_} {x:R_} (h:okFM p) (h0:0<=findMod p.bh a) (hd:(p.bh.getD (findMod p.bh a).toNat default).done=false):fmInv p a x (fillM0 p a x) 0:=by
 obtain⟨Q,M,R,h1,h2⟩:=h;exact⟨o_,o_,rfl,Q,M,R,NY h1 a x h0 hd,h2⟩
def Wf {p q:C_} {a:D_} {x:R_} {i:Int} (h:fmInv p a x q i) (h0:0<=findMod p.bh a) (hi:i<(imports (fillM0 p a x) a).1.length):fmInv p a x (askModule q ((imports (fillM0 p a x) a).1.getD i.toNat default)) (i+1):=by
 obtain⟨h1,h2,h3,Q,M,R,h4,h5⟩:=h;have hb:=(MG (x:=x) h0).1 _ (AH (show i.toNat<(imports (fillM0 p a x) a).1.length from o_));rw[HO (show i.toNat<(imports (fillM0 p a x) a).1.length from o_),List.foldl_cons] at h3;refine⟨o_,o_,by rw[show(i+1).toNat=i.toNat+1 from o_];exact h3,Q,M,R,?_,h5⟩;have:=Aer h4 hb;rw[show(i+1).toNat=i.toNat+1 from o_,show M+600*(i.toNat+1)=M+600*i.toNat+600 from o_,show R+20*(i.toNat+1)=R+20*i.toNat+20 from o_];exact this
def SM {p q:C_} {a:D_} {x:R_} {i:Int} (h:fmInv p a x q i) (h0:0<=findMod p.bh a) (hd:(p.bh.getD (findMod p.bh a).toNat default).done=false) (hi:(imports (fillM0 p a x) a).1.length<=i):q=fillModule p a x:=by
 have e:=h.2.2.1;rw[bR o_] at e;unfold fillModule;rw[J_ (by rintro(q|q);exact absurd q o_;rw[hd] at q;cases q)];exact e
def NO {p:C_} {k:Int} (h0:0<=k) (h:k<p.bh.length):modRequest p k=⟨5,(p.bh.getD k.toNat default).to,p.addr.host,⟨#[]⟩⟩:=by unfold modRequest;rw[I_ ⟨h0,h⟩]
def Ahx {p:C_} {a:D_} {x:R_} (h0:0<=findMod p.bh a):(((p.bh.modify (findMod p.bh a).toNat λz=>(⟨z.to,true,z.code,z.body⟩:Y_)).modify (findMod p.bh a).toNat λz=>(⟨z.to,z.done,checkResponse p.bj (modRequest p (findMod p.bh a)) x,z.body⟩:Y_)).modify (findMod p.bh a).toNat λz=>(⟨z.to,z.done,z.code,(usable p.bj (modRequest p (findMod p.bh a)) x).1⟩:Y_))=(fillM0 p a x).bh:=by
 have hf:=BJ p.bh a;have hi:(findMod p.bh a).toNat<p.bh.length:=o_
 rw[Ix,Ix];show _=p.bh.modify (findMod p.bh a).toNat (fillM p x);rw[HE _ hi,HE _ hi,NO h0 hf.1];rfl
def fmp (p:C_) (a:D_) (x:R_):(⟨p.addr,p.bj,p.tok,p.bn,p.ended,p.ba,p.bf,(fillM0 p a x).bh,p.bg,p.block,p.inline,p.bm,p.bq,p.ran,p.log,p.loaded⟩:C_)=fillM0 p a x:=rfl
def Afu (p:C_) (a:D_) (x:R_):(fillM0 p a x).bh.length=p.bh.length:=fE ..
def Tp {p:C_} (h:okAdv p) {k:Int} (h0:0<=k) (hk:k<p.bh.length):BE (modRequest p k)<=60000000000:=by
 obtain⟨Q,M,R,h1,h2,h3,h4⟩:=h;have hm:szL AF p.bh<=50000000000:=by have:=h1.2.2.2.1.2.1;unfold modP at this;omega
 have:=C6 AF (l:=p.bh) (i:=k.toNat) o_;have ha:=h1.2.2.2.2.2.1;have hz:ByteArray.size ⟨#[]⟩=0:=rfl;rw[NO h0 hk];simp only[AF,BE,szAddr,hz] at *;omega
def Ajc {p:C_} {a:D_} {x:R_} (h0:0<=findMod p.bh a) (hc:((fillM0 p a x).bh.getD (findMod p.bh a).toNat default).code=1):(parseModule ((fillM0 p a x).bh.getD (findMod p.bh a).toNat default).body a.host).1=(imports (fillM0 p a x) a).1:=by
 have hF:=IJ p a x h0;have:=MY (p:=fillM0 p a x) (a:=a) (by rw[hF.1];exact h0) (by rw[hF.1,hF.2];rfl) (by rw[hF.1];exact hc);rw[hF.1] at this;exact this
def AnY {p:C_} {a:D_} {x:R_} (h0:0<=findMod p.bh a) (hd:(p.bh.getD (findMod p.bh a).toNat default).done=false) (hc:¬ ((fillM0 p a x).bh.getD (findMod p.bh a).toNat default).code=1):fillM0 p a x=fillModule p a x:=by
 have hF:=IJ p a x h0;unfold fillModule;rw[J_ (by rintro(q|q);exact absurd q o_;rw[hd] at q;cases q),Mo (.inr (.inr (by rw[hF.1];exact hc)))];rfl
abbrev Eb:Fct:=⟨[.v (.el .page),.v (.el .addr),.v (.el .bd)],[.el .page],λ(x:cK)=>okFM x.1/\szAddr x.2.1<=4000000000/\x.2.2.1.bj.size<=200000000/\x.2.2.1.body.size<=1000000000,λ(x:cK)=>(fillModule x.1 x.2.1 x.2.2.1,())⟩
abbrev BL (p:C_) (a:D_) (x:R_):LInv:=⟨[⟨.b,7,true,.el .page⟩,⟨.s,12,true,.el .int⟩,⟨.b,6,true,.el .page⟩,⟨.s,10,true,.sl .addr⟩],λ(z x_:bw)=>((fmInv p a x x_.1 x_.2.1)/\x_.2.2.1=z.2.2.1)/\x_.2.2.2.1=z.2.2.2.1,λ(x_:bw)=>(imports (fillM0 p a x) a).1.length-x_.2.1.toNat⟩
def AnJ:=Anv.a Eb<|Fct.p (KP [3,4,5,6,7,8,9,10,12] [27,69]) (λ⟨p,a,x,_⟩=>lv [(11,BL p a x)]) Anv.2 func160 (by
 rintro⟨(p:C_),(a:D_),(x:R_),_⟩ hp;refine ho (let L_:=List Y_;.cl AA (p,()) λz2=>let H_:Out:=.lf Eb (z2.1,());.cl G9 (p,a,()) λ(z3:B_)=>.br (decide (z3.1<0)) H_ (.ob (inB z3.1 p.bh.length)<|.br ((p.bh.getD z3.1.toNat default).done) H_ (.cl Bo (p,z3.1,()) λz4=>.ix z3.1 z2.1.bh.length<|.lt L_ (z2.1.bh.modify z3.1.toNat λz=>({z with done:=true}:Y_)) λz5=>.cl Ap (p.bj,z4.1,x,()) λ(z6:B_)=>.ix z3.1 z5.length<|.lt L_ (z5.modify z3.1.toNat λz=>({z with code:=z6.1}:Y_)) λz7=>.cl CL (p.bj,z4.1,x,()) λz8=>.ix z3.1 z7.length<|.lt L_ (z7.modify z3.1.toNat λz=>({z with body:=z8.1}:Y_)) λz9=>let E_:=({z2.1 with bh:=z9}:C_);.cl HT (E_,a,()) λz10=>lpx (BL p a x) (E_,((0:Int),(default,(z10.1,())))) λ(y16:bw) bk16=>.br (decide (y16.2.1<(y16.2.2.2.1.length:Int))) (.ix y16.2.1 y16.2.2.2.1.length<|.cl Bi (y16.1,y16.2.2.2.1.getD y16.2.1.toNat default,()) λz11=>.re (Value.int IntKind.i64 z3.1)<|.bk (bk16 (z11.1,(w1 y16.2.1,(y16.2.2.1,(y16.2.2.2.1,())))))) (.lf Eb (y16.1,()))))) ?_;repeat' (guard_target =~ Out.holds _ _;first|refine Am (li:=BL p a x) ?_ λ(y16:bw) i16=>?_|refine lfY ?_|refine Aa (λ_=>?_) λ_=>?_|refine Ae ?_ λ_=>?_|refine Ab ?_ λ_=>?_|refine DS ?_|refine AR ?_|refine Ai ?_|refine Ei ?_ λ_ _=>?_)
 all_goals obtain⟨q1,q0,q2,q3⟩:=(show okFM p/\szAddr a<=4000000000/\x.bj.size<=200000000/\x.body.size<=1000000000 from hp)<;>(have hok:=Cy (Fb q1);have hf:=BJ p.bh a;try simp only[Kj] at *)<;>(try simp only[std,Nat.reduceAdd,Kl] at *)<;>(first|trivial|omega|skip)<;>(first|(unfold fillModule;rw[I_ (by first|exact .inl ‹_›|exact .inr ‹_›)];done)|skip)<;>have h0:0<=findMod p.bh a:=o_<;>have hd:(p.bh.getD (findMod p.bh a).toNat default).done=false:=‹_›<;>(have hq:=Tp (Fb q1) h0 hf.1;have hI:=MG (x:=x) h0;have hA:=Lz (OB (x:=x) q1 h0 hd) hI.2;have hB:=Cy hA;try simp only[Ahx h0,fmp,Afu,fE] at *)<;>(first|trivial|omega|exact⟨o_,o_,q2,q3⟩|exact⟨o_,hB.2.2.2.2.2,by simp only[szAddr] at q0;omega⟩|exact OB q1 h0 hd|skip)<;>(obtain⟨⟨i1,e1⟩,e2⟩:=i16;simp only[e2] at *;have hi0:=i1.1;have hi1:=i1.2.1)<;>(first|trivial|omega|(rw[SM i1 h0 hd o_];done)|skip)<;>(have hj:=Cy (Lz i1 hI.2);have hb:=hI.1 _ (AH (show y16.2.1.toNat<(imports (fillM0 p a x) a).1.length from o_)))<;>(first|exact⟨o_,by have h7:=hj.2.1;simp only[szAddr] at h7;omega,by simp only[szAddr];omega⟩|(rw[Ah o_];exact⟨⟨⟨Wf i1 h0 o_,e1⟩,trivial⟩,o_⟩)|skip))
abbrev CS (p:C_) (a:D_) (x:R_):LInv:=⟨[⟨.b,7,true,.el .page⟩,⟨.s,84,true,.el .int⟩,⟨.b,6,true,.el .page⟩,⟨.s,82,true,.sl .addr⟩],λ(z x_:bw)=>((fmInv p a x x_.1 x_.2.1)/\x_.2.2.1=z.2.2.1)/\x_.2.2.2.1=z.2.2.2.1,λ(x_:bw)=>(imports (fillM0 p a x) a).1.length-x_.2.1.toNat⟩
def AkR:=AnJ.a Eb<|Fct.p (KP [3,4,5,6,7,8,9,10,14,82,83,84] [29,68,85]) (λ⟨p,a,x,_⟩=>lv [(12,CS p a x)]) AnJ.2 func129 (by
 rintro⟨(p:C_),(a:D_),(x:R_),_⟩ hp;refine ho (let L_:=List Y_;.cl AA (p,()) λz2=>let E_:Out:=.lf Eb (z2.1,());.cl G9 (p,a,()) λ(z3:B_)=>.br (decide (z3.1<0)) E_ (.ob (inB z3.1 p.bh.length)<|.br ((p.bh.getD z3.1.toNat default).done) E_ (.cl Bo (p,z3.1,()) λz4=>.ix z3.1 z2.1.bh.length<|.lt L_ (z2.1.bh.modify z3.1.toNat λz=>({z with done:=true}:Y_)) λz5=>.cl Ap (p.bj,z4.1,x,()) λ(z6:B_)=>.ix z3.1 z5.length<|.lt L_ (z5.modify z3.1.toNat λz=>({z with code:=z6.1}:Y_)) λz7=>.cl CL (p.bj,z4.1,x,()) λz8=>.ix z3.1 z7.length<|.lt L_ (z7.modify z3.1.toNat λz=>({z with body:=z8.1}:Y_)) λz9=>let H_:=z9.getD z3.1.toNat default;.ix z3.1 z9.length<|.br (H_.code==1) (.ix z3.1 z9.length<|.cl BK (H_.body,a.host,()) λz10=>let M_:=(z10.1.length:Int);lpx (CS p a x) (({z2.1 with bh:=z9}:C_),((0:Int),(default,(z10.1,())))) λ(y21:bw) bk21=>.br (decide (y21.2.1<M_)) (.ix y21.2.1 y21.2.2.2.1.length<|.cl Bi (y21.1,y21.2.2.2.1.getD y21.2.1.toNat default,()) λz11=>.re (Value.int IntKind.i64 z3.1)<|.re (Value.int IntKind.i64 M_)<|.bk (bk21 (z11.1,(w1 y21.2.1,(y21.2.2.1,(y21.2.2.2.1,())))))) (.lf Eb (y21.1,()))) (.lf Eb ({z2.1 with bh:=z9},()))))) ?_;refine Ae ?_ λ_=>(Ae ?_ λ_=>Aa (λh3=>lfY ?_) λh3=>Ab ?_ λ_=>Aa (λh5=>lfY ?_) λh5=>Ae ?_ λ_=>Ei ?_ λo7 o8=>DS (Ae ?_ λ_=>Ei ?_ λo10 o11=>DS (Ae ?_ λ_=>Ei ?_ λo13 o14=>DS (Ei ?_ λo15 o16=>Aa (λh17=>Ei ?_ λo18 o19=>Ae ?_ λ_=>Am ?_ λ(y21:bw) i21=>Aa (λh22=>Ei ?_ λo23 o24=>Ae ?_ λ_=>(Ai<|Ai<|AR ?_)) λh22=>lfY ?_) λh17=>lfY ?_))))<;>obtain⟨q1,q0,q2,q3⟩:=(show okFM p/\szAddr a<=4000000000/\x.bj.size<=200000000/\x.body.size<=1000000000 from hp)<;>(have hok:=Cy (Fb q1);have hf:=BJ p.bh a;try simp only[Kj] at *)<;>(try simp only[std,Nat.reduceAdd,Kl] at *)<;>(first|trivial|omega|skip)<;>(first|(unfold fillModule;rw[I_ (by first|exact .inl ‹_›|exact .inr ‹_›)];done)|skip)<;>have h0:0<=findMod p.bh a:=o_<;>have hd:(p.bh.getD (findMod p.bh a).toNat default).done=false:=‹_›<;>(have hq:=Tp (Fb q1) h0 hf.1;have hI:=MG (x:=x) h0;have hA:=Lz (OB (x:=x) q1 h0 hd) hI.2;have hB:=Cy hA;try simp only[Ahx h0,fmp,Afu,fE] at *)<;>(first|trivial|omega|exact⟨o_,o_,q2,q3⟩|exact⟨o_,hB.2.2.2.2.2,by simp only[szAddr] at q0;omega⟩|exact OB q1 h0 hd|skip)<;>(first|(exact AnY h0 hd ‹_›)|(have hc:((fillM0 p a x).bh.getD (findMod p.bh a).toNat default).code=1:=by assumption))<;>have hy:=Ajc h0 hc<;>(first|exact⟨hB.2.2.2.2.2 _ (by rw[Afu];omega),by simp only[szAddr] at q0;omega⟩|exact OB q1 h0 hd|skip)<;>(obtain⟨⟨i1,e1⟩,e2⟩:=i21;simp only[e2,hy] at *;have hi0:=i1.1;have hi1:=i1.2.1)<;>(first|trivial|omega|(rw[SM i1 h0 hd o_];done)|skip)<;>(have hj:=Cy (Lz i1 hI.2);have hb:=hI.1 _ (AH (show y21.2.1.toNat<(imports (fillM0 p a x) a).1.length from o_)))<;>(first|exact⟨o_,by have h7:=hj.2.1;simp only[szAddr] at h7;omega,by simp only[szAddr];omega⟩|(rw[Ah o_];exact⟨⟨⟨Wf i1 h0 o_,e1⟩,trivial⟩,o_⟩)|skip))
def takeAnswer (p:C_) (a:D_) (x:R_):C_:=advance (fillModule (fillAll p a x) a x)
def Sz {p:C_} (h:okFM p) (a:D_) (x:R_):okFM (fillAll p a x):=by
 obtain⟨Q,M,R,h1,h2⟩:=h;have:=NI h1 a x p.bf.length;rw[JX (aa _)] at this;exact⟨Q,M,R,this,h2⟩
def AcC {p:C_} (h:okFM p) (a:D_) (x:R_):okAdv (fillModule p a x):=by
 obtain⟨Q,M,R,h1,h2,h3,h4⟩:=h;exact⟨Q,_,_,QR h1 a x,h2,o_,o_⟩
abbrev CM:Fct:=⟨[.v (.el .page),.v (.el .addr),.v (.el .bd)],[.el .page],λ(x:cK)=>okFM x.1/\szAddr x.2.1<=4000000000/\x.2.2.1.bj.size<=200000000/\x.2.2.1.body.size<=1000000000,λ(x:cK)=>(takeAnswer x.1 x.2.1 x.2.2.1,())⟩
theorem q9 (p:C_) (a:D_) (x:R_) (hp:CM.pre (p,a,x,())):Out.holds (CM.ctr (p,a,x,())).post (.cl Lf (p,a,x,()) λz2=>.cl Eb (z2.1,a,x,()) λz3=>.cl Ej (z3.1,()) λz4=>.lf CM (z4.1,())):=by
 refine Ae ?_ λ_=>(Ae ?_ λ_=>Ae ?_ λ_=>lfY ?_)<;>obtain⟨q1,q0,q2,q3⟩:=(show okFM p/\szAddr a<=4000000000/\x.bj.size<=200000000/\x.body.size<=1000000000 from hp)<;>(try simp only[std,Nat.reduceAdd] at *)<;>(first|exact⟨Fb q1,q2,q3⟩|exact⟨Sz q1 a x,q0,q2,q3⟩|exact AcC (Sz q1 a x) a x|rfl|trivial)
def Akc:=AkR.a CM<|Fct.o [3,4,5,6] AkR.2 func70 (by
 rintro⟨(p:C_),(a:D_),(x:R_),_⟩ hp;exact ho _ (q9 p a x hp))
def Ajn:=Akc.a CM<|Fct.o [3,4,5,6] Akc.2 func46 (by
 rintro⟨(p:C_),(a:D_),(x:R_),_⟩ hp;exact ho _ (q9 p a x hp))
def nextNeeds (p:C_):List ar:=(openSlots p).map (slotRequest p)++(openMods p).map (modRequest p)
def VQ {p:C_} {i:Nat} (h:i<(openSlots p).length):0<=(openSlots p).getD i default/\(openSlots p).getD i default<p.bf.length:=by
 have:=Hq (λs:ay=>!s.done) p.bf 0 _ (AH h);unfold openSlots at *;omega
def Wh {p:C_} {i:Nat} (h:i<(openMods p).length):0<=(openMods p).getD i default/\(openMods p).getD i default<p.bh.length:=by
 have:=Hq (λs:Y_=>!s.done) p.bh 0 _ (AH h);unfold openMods at *;omega
def Py {α β:Type} [Inhabited α] (f:α->β) {l:List α} {i:Nat} (h:i<l.length):(l.drop i).map f=f (l.getD i default)::(l.drop (i+1)).map f:=by rw[HO h];rfl
def Me {α β:Type} (f:α->β) {l:List α} {i:Nat} (h:l.length<=i):(l.drop i).map f=[]:=by rw[bR h];rfl
abbrev Fu:Fct:=⟨[.v (.el .page)],[.sl .request],λ(x:ak)=>x.1.bf.length+x.1.bh.length<=1000000000000,λ(x:ak)=>(nextNeeds x.1,())⟩
abbrev Du (p:C_):LInv:=⟨[⟨.s,3,true,.sl .request⟩,⟨.s,5,true,.el .int⟩,⟨.b,1,false,.el .page⟩,⟨.s,4,true,.sl .int⟩],λ(z x:aG)=>((0<=x.2.1/\x.2.1<=(openSlots p).length/\x.1.length<=x.2.1/\x.1++((openSlots p).drop x.2.1.toNat).map (slotRequest p)=(openSlots p).map (slotRequest p))/\x.2.2.1=z.2.2.1)/\x.2.2.2.1=z.2.2.2.1,λ(x:aG)=>(openSlots p).length-x.2.1.toNat⟩
abbrev Dq (p:C_):LInv:=⟨[⟨.s,3,true,.sl .request⟩,⟨.s,7,true,.el .int⟩,⟨.b,1,false,.el .page⟩,⟨.s,6,true,.sl .int⟩],λ(z x:aG)=>((0<=x.2.1/\x.2.1<=(openMods p).length/\x.1.length<=(openSlots p).length+x.2.1/\x.1++((openMods p).drop x.2.1.toNat).map (modRequest p)=nextNeeds p)/\x.2.2.1=z.2.2.1)/\x.2.2.2.1=z.2.2.2.1,λ(x:aG)=>(openMods p).length-x.2.1.toNat⟩
def AjF:=Ajn.a Fu<|Fct.p (KP [1,2,3,4,5,6,7] [14,31]) (λ⟨p,_⟩=>λ|4=>some (Du p)|9=>some (Dq p)|_=>none) Ajn.2 func65 (by
 rintro⟨(p:C_),_⟩ hp;refine ho (.cl FF (p,()) λ(z2:W_)=>lpx (Du p) ([],((0:Int),(p,(z2.1,())))) λ(y2:aG) bk2=>.br (decide (y2.2.1<(y2.2.2.2.1.length:Int))) (.ix y2.2.1 y2.2.2.2.1.length<|.cl Bs (y2.2.2.1,y2.2.2.2.1.getD y2.2.1.toNat default,()) λz3=>.ap (y2.1.length+[z3.1].length) 72<|.bk (bk2 (y2.1++[z3.1],(w1 y2.2.1,(y2.2.2.1,(y2.2.2.2.1,())))))) (.cl GY (y2.2.2.1,()) λ(z4:W_)=>lpx (Dq p) (y2.1,((0:Int),(y2.2.2.1,(z4.1,())))) λ(y10:aG) bk10=>.br (decide (y10.2.1<(y10.2.2.2.1.length:Int))) (.ix y10.2.1 y10.2.2.2.1.length<|.cl Bo (y10.2.2.1,y10.2.2.2.1.getD y10.2.1.toNat default,()) λz5=>.ap (y10.1.length+[z5.1].length) 72<|.re (Value.int IntKind.i64 y2.2.1)<|.bk (bk10 (y10.1++[z5.1],(w1 y10.2.1,(y10.2.2.1,(y10.2.2.2.1,())))))) (.lf Fu (y10.1,())))) ?_;refine Ae ?_ λ_=>(Am ?_ λ(y2:aG) i2=>Aa (λh3=>Ei ?_ λo4 o5=>Ae ?_ λ_=>Ed ?_ λ_=>AR ?_) λh3=>Ae ?_ λ_=>Am ?_ λ(y10:aG) i10=>Aa (λh11=>Ei ?_ λo12 o13=>Ae ?_ λ_=>(Ed ?_ λ_=>Ai<|AR ?_)) λh11=>lfY ?_)<;>(have hl1:(openSlots p).length<=p.bf.length:=Dn _ _ _;have hl2:(openMods p).length<=p.bh.length:=Dn _ _ _;try simp only[std,Nat.reduceAdd] at *)<;>(first|trivial|omega|exact⟨o_,o_,by simp,rfl⟩|skip)<;>(obtain⟨⟨⟨a1,a2,a3,a4⟩,e1⟩,e2⟩:=i2;simp only[e1,e2] at *)<;>(first|trivial|omega|skip)<;>(try obtain⟨⟨⟨b1,b2,b3,b4⟩,f1⟩,f2⟩:=i10;simp only[f1,f2] at *)<;>(first|trivial|omega|skip)<;>(first|(have ho:=Wh (p:=p) (i:=y10.2.1.toNat) o_)|(have ho:=VQ (p:=p) (i:=y2.2.1.toNat) o_)|skip)<;>(first|exact⟨o_,o_,o_⟩|skip)<;>(first|(rw[Me (modRequest p) (l:=openMods p) (i:=y10.2.1.toNat) o_] at b4;rw[cF] at b4;exact b4)|(rw[Py (modRequest p) (l:=openMods p) (i:=y10.2.1.toNat) o_] at b4;rw[Ah o_,show(y10.2.1+1).toNat=y10.2.1.toNat+1 from o_];exact⟨⟨⟨⟨o_,o_,by simp only[al,aw,aJ];omega,by rw[bB];exact b4⟩,by trivial⟩,by trivial⟩,o_⟩)|(rw[Py (slotRequest p) (l:=openSlots p) (i:=y2.2.1.toNat) o_] at a4;rw[Ah o_,show(y2.2.1+1).toNat=y2.2.1.toNat+1 from o_];exact⟨⟨⟨⟨o_,o_,by simp only[al,aw,aJ];omega,by rw[bB];exact a4⟩,by trivial⟩,by trivial⟩,o_⟩)|(rw[Me (slotRequest p) (l:=openSlots p) (i:=y2.2.1.toNat) o_] at a4;rw[cF] at a4;exact⟨o_,o_,o_,by rw[a4];rfl⟩)|skip))
abbrev DC (p:C_):LInv:=⟨[⟨.s,3,true,.sl .request⟩,⟨.s,12,true,.el .int⟩,⟨.b,1,false,.el .page⟩,⟨.s,10,true,.sl .int⟩],λ(z x:aG)=>((0<=x.2.1/\x.2.1<=(openSlots p).length/\x.1.length<=x.2.1/\x.1++((openSlots p).drop x.2.1.toNat).map (slotRequest p)=(openSlots p).map (slotRequest p))/\x.2.2.1=z.2.2.1)/\x.2.2.2.1=z.2.2.2.1,λ(x:aG)=>(openSlots p).length-x.2.1.toNat⟩
abbrev Dt (p:C_):LInv:=⟨[⟨.s,3,true,.sl .request⟩,⟨.s,26,true,.el .int⟩,⟨.b,1,false,.el .page⟩,⟨.s,24,true,.sl .int⟩],λ(z x:aG)=>((0<=x.2.1/\x.2.1<=(openMods p).length/\x.1.length<=(openSlots p).length+x.2.1/\x.1++((openMods p).drop x.2.1.toNat).map (modRequest p)=nextNeeds p)/\x.2.2.1=z.2.2.1)/\x.2.2.2.1=z.2.2.2.1,λ(x:aG)=>(openMods p).length-x.2.1.toNat⟩
def Al0:=AjF.a Fu<|Fct.p (KP [1,2,3,5,7,10,11,12,24,25,26] [13,27]) (λ⟨p,_⟩=>λ|3=>some (DC p)|8=>some (Dt p)|_=>none) AjF.2 func42 (by
 rintro⟨(p:C_),_⟩ hp;refine ho (.cl FF (p,()) λ(z2:W_)=>lpx (DC p) ([],((0:Int),(p,(z2.1,())))) λ(y2:aG) bk2=>.br (decide (y2.2.1<(z2.1.length:Int))) (.ix y2.2.1 y2.2.2.2.1.length<|.cl Bs (y2.2.2.1,y2.2.2.2.1.getD y2.2.1.toNat default,()) λz3=>.ap (y2.1.length+[z3.1].length) 72<|.re (Value.int IntKind.i64 (z2.1.length:Int))<|.bk (bk2 (y2.1++[z3.1],(w1 y2.2.1,(y2.2.2.1,(y2.2.2.2.1,())))))) (.cl GY (y2.2.2.1,()) λ(z4:W_)=>lpx (Dt p) (y2.1,((0:Int),(y2.2.2.1,(z4.1,())))) λ(y10:aG) bk10=>.br (decide (y10.2.1<(z4.1.length:Int))) (.ix y10.2.1 y10.2.2.2.1.length<|.cl Bo (y10.2.2.1,y10.2.2.2.1.getD y10.2.1.toNat default,()) λz5=>.ap (y10.1.length+[z5.1].length) 72<|.re (Value.int IntKind.i64 y2.2.1)<|.re (Value.int IntKind.i64 (z2.1.length:Int))<|.re (Value.int IntKind.i64 (z4.1.length:Int))<|.bk (bk10 (y10.1++[z5.1],(w1 y10.2.1,(y10.2.2.1,(y10.2.2.2.1,())))))) (.lf Fu (y10.1,())))) ?_;refine Ae ?_ λ_=>(Am ?_ λ(y2:aG) i2=>Aa (λh3=>Ei ?_ λo4 o5=>Ae ?_ λ_=>(Ed ?_ λ_=>Ai<|AR ?_)) λh3=>Ae ?_ λ_=>Am ?_ λ(y10:aG) i10=>Aa (λh11=>Ei ?_ λo12 o13=>Ae ?_ λ_=>(Ed ?_ λ_=>Ai<|Ai<|Ai<|AR ?_)) λh11=>lfY ?_)<;>(have hl1:(openSlots p).length<=p.bf.length:=Dn _ _ _;have hl2:(openMods p).length<=p.bh.length:=Dn _ _ _;try simp only[Kj] at *)<;>(try simp only[std,Nat.reduceAdd] at *)<;>(first|trivial|omega|exact⟨o_,o_,by simp,rfl⟩|skip)<;>(obtain⟨⟨⟨a1,a2,a3,a4⟩,e1⟩,e2⟩:=i2;simp only[e1,e2] at *)<;>(first|trivial|omega|skip)<;>(try obtain⟨⟨⟨b1,b2,b3,b4⟩,f1⟩,f2⟩:=i10;simp only[f1,f2] at *)<;>(first|trivial|omega|skip)<;>(first|(have ho:=Wh (p:=p) (i:=y10.2.1.toNat) o_)|(have ho:=VQ (p:=p) (i:=y2.2.1.toNat) o_)|skip)<;>(first|exact⟨o_,o_,o_⟩|skip)<;>(first|(rw[Me (modRequest p) (l:=openMods p) (i:=y10.2.1.toNat) o_] at b4;rw[cF] at b4;exact b4)|(rw[Py (modRequest p) (l:=openMods p) (i:=y10.2.1.toNat) o_] at b4;rw[Ah o_,show(y10.2.1+1).toNat=y10.2.1.toNat+1 from o_];exact⟨⟨⟨⟨o_,o_,by simp only[al,aw,aJ];omega,by rw[bB];exact b4⟩,by trivial⟩,by trivial⟩,o_⟩)|(rw[Py (slotRequest p) (l:=openSlots p) (i:=y2.2.1.toNat) o_] at a4;rw[Ah o_,show(y2.2.1+1).toNat=y2.2.1.toNat+1 from o_];exact⟨⟨⟨⟨o_,o_,by simp only[al,aw,aJ];omega,by rw[bB];exact a4⟩,by trivial⟩,by trivial⟩,o_⟩)|(rw[Me (slotRequest p) (l:=openSlots p) (i:=y2.2.1.toNat) o_] at a4;rw[cF] at a4;exact⟨o_,o_,o_,by rw[a4];rfl⟩)|skip))
def busyOf (l:List V_):List D_:=l.map λc=>c.to
abbrev Afq:Fct:=⟨[.v (.sl .conn)],[.sl .addr],λ(x:ey)=>x.1.length<=1048576,λ(x:ey)=>(busyOf x.1,())⟩
abbrev F9 (l:(List V_)):LInv:=⟨[⟨.s,3,true,.sl .addr⟩,⟨.s,4,true,.el .int⟩],λ_ (x:dW)=>0<=x.2.1/\x.2.1<=l.length/\x.1.length<=x.2.1/\x.1++busyOf (l.drop x.2.1.toNat)=busyOf l,λ(x:dW)=>l.length-x.2.1.toNat⟩
def AlJ:=Al0.a Afq<|Fct.p (KP [0,2,3,4] [9]) (λ⟨l,_⟩=>lv [(3,F9 l)]) Al0.2 func66 (by
 rintro⟨(l:List V_),_⟩ hp;refine ho (lpx (F9 l) ([],((0:Int),())) λ(y1:dW) bk1=>.br (decide (y1.2.1<(l.length:Int))) (.ob (inB y1.2.1 l.length)<|.ap (y1.1.length+[(l.getD y1.2.1.toNat default).to].length) 32<|.re (l)<|.bk (bk1 (y1.1++[(l.getD y1.2.1.toNat default).to],(w1 y1.2.1,())))) (.lf Afq (y1.1,()))) ?_;refine Am ?_ λ(y1:dW) i1=>Aa (λh2=>Ab ?_ λ_=>Ed ?_ λ_=>Ai<|AR ?_) (λh2=>lfY ?_)<;>(try simp only[std,Nat.reduceAdd,busyOf] at *)<;>(first|trivial|omega|skip)<;>(obtain⟨a1,a2,a3,a4⟩:=i1)<;>(first|(rw[Me (λc:V_=>c.to) (l:=l) (i:=y1.2.1.toNat) o_,cF] at a4;exact a4)|(rw[Py (λc:V_=>c.to) (l:=l) (i:=y1.2.1.toNat) o_] at a4;rw[Ah o_,show(y1.2.1+1).toNat=y1.2.1.toNat+1 from o_];exact⟨⟨o_,o_,by simp only[al,aw,aJ];omega,by rw[bB];exact a4⟩,o_⟩)))
def reqNeeds (l:N_):List ar:=withoutAddrs (busyOf l.conns) (nextNeeds l.page)
def reqPick (l:N_):Int:=pickReq l.page (reqNeeds l) 0 (-1) 0
def reqTo (l:N_):D_:=((reqNeeds l).getD (reqPick l).toNat default).to
def requestNext (l:N_):N_×Bool :=
 if reqPick l<0 then(l,false)
 else if(useGuess l.guesses (reqTo l)).2.2=true then
  ({ l with guesses:=(useGuess l.guesses (reqTo l)).1,net:=keepAnswer l.net l.page.addr.host (reqTo l) (useGuess l.guesses (reqTo l)).2.1,page:=takeAnswer l.page (reqTo l) (useGuess l.guesses (reqTo l)).2.1 },true)
 else if 3<=l.conns.length then(l,false)
 else({ l with net:=(fetchNow l.net l.page.addr.host (reqTo l) false).1,conns:=(openConn l.conns (reqTo l) (fetchNow l.net l.page.addr.host (reqTo l) false).2 false).1 },true)
def okGs (l:List au):Prop:=∀ g,g∈l->Ad g.bd<=1048576
def okCs (l:List V_):Prop:=∀ c,c∈l->Ad c.bd<=1048576/\szAddr c.to<=4000000
def okTo (p:C_):Prop:=(∀ s,s∈p.bf->szAddr s.to<=4000000)/\∀ m,m∈p.bh->szAddr m.to<=4000000
def okRN (l:N_):Prop:=((okFM l.page/\okTo l.page/\l.parts.length<=1000000000)/\-9223372036854775808<=l.page.block/\l.page.block<=9223372036854775807/\l.page.bf.length+l.page.bh.length<=1000000000000)/\(l.conns.length<=1048576/\okCs l.conns)/\(l.guesses.length<=4194304/\okGs l.guesses)/\okNt l.net
def Hf (p:C_):(nextNeeds p).length<=p.bf.length+p.bh.length:=by
 have h1:(openSlots p).length<=p.bf.length:=Dn _ _ _;have h2:(openMods p).length<=p.bh.length:=Dn _ _ _;unfold nextNeeds;rw[al,eh,eh];omega
def QJ {d:List D_} {r:ar}:∀ {l:List ar},r∈withoutAddrs d l->r∈l
 | [],h=>h
 | x::l,h=>by
  rw[withoutAddrs] at h;split at h
  ·exact cJ _ (QJ h)
  ·rcases cp.1 h with q|q
   ·rw[q];exact cZ
   ·exact cJ _ (QJ q)
def Ad7 {p:C_} {r:ar} (h:r∈nextNeeds p):(∃ s,s∈p.bf/\r.to=s.to)\/∃ m,m∈p.bh/\r.to=m.to:=by
 unfold nextNeeds at h;rcases aR.1 h with q|q
 ·obtain⟨k,hk,rfl⟩:=eu.1 q;have:=Hq (λs:ay=>!s.done) p.bf 0 k hk;left;refine⟨p.bf.getD k.toNat default,AH o_,?_⟩;unfold slotRequest;rw[I_ o_]
 ·obtain⟨k,hk,rfl⟩:=eu.1 q;have:=Hq (λm:Y_=>!m.done) p.bh 0 k hk;right;refine⟨p.bh.getD k.toNat default,AH o_,?_⟩;rw[NO o_ o_]
def MD (p:C_):∀ (l:List ar) (i b c:Int),-1<=b->b<i->-1<=pickReq p l i b c/\pickReq p l i b c<i+l.length
 | [],i,b,c,h1,h2=>by
  rw[pickReq];simp only[aJ];omega
 | r::l,i,b,c,h1,h2=>by
  rw[pickReq,aw];split
  ·have:=MD p l (i+1) i (classOf p r) o_ o_;omega
  ·have:=MD p l (i+1) b c h1 o_;omega
def rn1 (l:N_):withoutAddrs (busyOf l.conns) (nextNeeds l.page)=reqNeeds l:=rfl
def rn2 (l:N_):pickReq l.page (reqNeeds l) 0 (-1) 0=reqPick l:=rfl
def rn3 (l:N_):((reqNeeds l).getD (reqPick l).toNat default).to=reqTo l:=rfl
def AgV (l:N_) : -1<=reqPick l/\reqPick l<(reqNeeds l).length:=by
 have:=MD l.page (reqNeeds l) 0 (-1) 0 o_ o_;unfold reqPick;omega
def Adw {l:N_} (h:okTo l.page) (h0:0<=reqPick l):szAddr (reqTo l)<=4000000:=by
 have hi:=(AgV l).2;have hm:(reqNeeds l).getD (reqPick l).toNat default∈nextNeeds l.page:=QJ (AH (show(reqPick l).toNat<(reqNeeds l).length from o_));unfold reqTo;rcases Ad7 hm with⟨s,hs,e⟩|⟨m,hm2,e⟩
 ·rw[e];exact h.1 s hs
 ·rw[e];exact h.2 m hm2
def Aai {l:List au} {a:D_} (h:okGs l):Ad (useGuess l a).2.1<=1048576:=by
 unfold useGuess;split
 ·exact(show Ad notFound<=1048576 by decide)
 ·rename_i hc;have hf:=DI (λg:au=>decide (g.to=a)) l 0 o_;have:(findGuess l a).toNat<l.length:=by unfold findGuess at *;omega
  exact h _ (AH this)
def AfE {l:List V_} {i:Nat} (h:i<l.length):busyOf (l.drop i)=(l.getD i default).to::busyOf (l.drop (i+1)):=Py (λc:V_=>c.to) h
def Aec {l:List V_} {i:Nat} (h:l.length<=i):busyOf (l.drop i)=[]:=Me (λc:V_=>c.to) h
abbrev Ci:Fct:=⟨[.v (.el .loader)],[.el .loader,.el .bool],λ(x:aD)=>okRN x.1,λ(x:aD)=>((requestNext x.1).1,(requestNext x.1).2,())⟩
def Akl:=AlJ.a Ci<|Fct.o (KP [1,2,3,4,5,6,7,8,9,10,11,12,13] [28,47,67]) AlJ.2 func12 (by
 rintro⟨(l:N_),_⟩ hp;refine ho (.cl A9 (l,()) λz2=>let H_:Out:=.lf Ci (z2.1,false,());.cl Fu (l.page,()) λz3=>.cl Afq (l.conns,()) λz4=>.cl En (z3.1,z4.1,()) λz5=>.cl Fp (l.page,z5.1,()) λ(z6:B_)=>let E_:=z5.1.getD z6.1.toNat default;.br (decide (z6.1<0)) H_ (.ix z6.1 z5.1.length<|.cl GW (l.guesses,E_.to,()) λz7=>.br (z7.2.2.1) (.cl AX (l.net,l.page.addr.host,E_.to,z7.2.1,()) λz8=>.cl CM (l.page,E_.to,z7.2.1,()) λz9=>.lf Ci (⟨z8.1,z9.1,z2.1.parts,z2.1.conns,z7.1⟩,true,())) (.br (decide ((l.conns.length:Int)>=3)) H_ (.cl Bj (l.net,l.page.addr.host,E_.to,false,()) λz10=>.cl Ng (l.conns,E_.to,z10.2.1,false,()) λz11=>.lf Ci ({z2.1 with net:=z10.1,conns:=z11.1},true,()))))) ?_;repeat' (guard_target =~ Out.holds _ _;first|refine lfY ?_|refine Aa (λ_=>?_) λ_=>?_|refine Ae ?_ λ_=>?_|refine Ei ?_ λ_ _=>?_)
 all_goals obtain⟨⟨⟨q1,qt,qp⟩,q2,q3,q4⟩,⟨q5,q6⟩,⟨q7,q8⟩,q9⟩:=(show okRN l from hp)<;>(have hok:=Cy (Fb q1);have hh:l.page.addr.host.size<=4000000:=by have:=hok.2.1;simp only[szAddr] at this;omega)<;>(have hn:=Hf l.page;have hb:(busyOf l.conns).length=l.conns.length:=eh ..;have hw:=Jd (busyOf l.conns) (nextNeeds l.page);have hk:=AgV l;have ht:=λh=>Adw (l:=l) qt h)<;>(have hu:=Aai (a:=reqTo l) q8;have hf:=Fy (t:=l.page.addr.host) (a:=reqTo l) (g:=false) q9)<;>obtain⟨n1,n2,n3,n4⟩:=q9<;>(try simp only[Kj] at *)<;>(try simp only[std,Nat.reduceAdd,rn1,rn2,rn3] at *)<;>(first|trivial|omega|skip)<;>(first|exact⟨o_,o_,o_,o_,o_⟩|exact⟨o_,o_⟩|exact⟨o_,⟨o_,o_⟩,o_⟩|skip)<;>(have hs1:(useGuess l.guesses (reqTo l)).2.1.body.size+(useGuess l.guesses (reqTo l)).2.1.bj.size<=1048576:=hu;have hs2:(fetchNow l.net l.page.addr.host (reqTo l) false).2.body.size+(fetchNow l.net l.page.addr.host (reqTo l) false).2.bj.size<=1048576:=hf)<;>(first|exact⟨q1,o_,o_,o_⟩|exact⟨o_,o_⟩|skip)<;>unfold requestNext<;>(first|(rw[I_ ‹_›];exact⟨rfl,rfl⟩)|(rw[J_ o_]))<;>(first|(rw[I_ ‹_›];exact⟨rfl,rfl⟩)|(rw[J_ (by rw[show(useGuess l.guesses (reqTo l)).2.2=false from ‹_›];decide)]))<;>(first|(rw[I_ o_];exact⟨rfl,rfl⟩)|(rw[J_ o_];exact⟨rfl,rfl⟩)|skip))
abbrev CG (l:N_):LInv:=⟨[⟨.s,5,true,.sl .addr⟩,⟨.s,23,true,.el .int⟩,⟨.b,1,false,.el .loader⟩,⟨.b,2,true,.el .loader⟩,⟨.b,4,true,.el .loader⟩],λ(z x:dX)=>(((0<=x.2.1/\x.2.1<=l.conns.length/\x.1.length<=x.2.1/\x.1++busyOf (l.conns.drop x.2.1.toNat)=busyOf l.conns)/\x.2.2.1=z.2.2.1)/\x.2.2.2.1=z.2.2.2.1)/\x.2.2.2.2.1=z.2.2.2.2.1,λ(x:dX)=>l.conns.length-x.2.1.toNat⟩
def AjC:=Akl.a Ci<|Fct.p (KP [1,2,3,4,5,7,8,9,10,11,12,13,14,15,16,21,22,23] [24,43,62,82]) (λ⟨l,_⟩=>lv [(4,CG l)]) Akl.2 func8 (by
 rintro⟨(l:N_),_⟩ hp;refine ho (let M_:=(l.conns.length:Int);.cl A9 (l,()) λz2=>lpx (CG l) ([],((0:Int),(l,(default,(z2.1,()))))) λ(y2:dX) bk2=>let L_:=l.conns.getD y2.2.1.toNat default;let H_:Out:=.lf Ci (y2.2.2.2.2.1,false,());.br (decide (y2.2.1<M_)) (.ob (inB y2.2.1 l.conns.length)<|.ap (y2.1.length+[L_.to].length) 32<|.re (l.conns)<|.re (Value.int IntKind.i64 M_)<|.bk (bk2 (y2.1++[L_.to],(w1 y2.2.1,(y2.2.2.1,(y2.2.2.2.1,(y2.2.2.2.2.1,()))))))) (.cl Fu (y2.2.2.1.page,()) λz3=>.cl En (z3.1,y2.1,()) λz4=>.cl Fp (y2.2.2.1.page,z4.1,()) λ(z5:B_)=>let E_:=z4.1.getD z5.1.toNat default;.br (decide (z5.1<0)) H_ (.ix z5.1 z4.1.length<|.cl GW (y2.2.2.1.guesses,E_.to,()) λz6=>.br (z6.2.2.1) (.cl AX (y2.2.2.2.2.1.net,y2.2.2.1.page.addr.host,E_.to,z6.2.1,()) λz7=>.cl CM (y2.2.2.2.2.1.page,E_.to,z6.2.1,()) λz8=>.lf Ci (⟨z7.1,z8.1,y2.2.2.2.2.1.parts,y2.2.2.2.2.1.conns,z6.1⟩,true,())) (.br (decide ((y2.2.2.1.conns.length:Int)>=3)) H_ (.cl Bj (y2.2.2.2.2.1.net,y2.2.2.1.page.addr.host,E_.to,false,()) λz9=>.cl Ng (y2.2.2.2.2.1.conns,E_.to,z9.2.1,false,()) λz10=>.lf Ci ({y2.2.2.2.2.1 with net:=z9.1,conns:=z10.1},true,())))))) ?_;refine Ae ?_ λ_=>(Am ?_ λ(y2:dX) i2=>Aa (λh3=>Ab ?_ λ_=>Ed ?_ λ_=>Ai<|Ai<|AR ?_) λh3=>Ae ?_ λ_=>Ae ?_ λ_=>Ae ?_ λ_=>Aa (λh10=>lfY ?_) λh10=>Ei ?_ λo11 o12=>Ae ?_ λ_=>Aa (λh14=>Ae ?_ λ_=>Ae ?_ λ_=>lfY ?_) λh14=>Aa (λh17=>lfY ?_) λh17=>Ae ?_ λ_=>Ae ?_ λ_=>lfY ?_)<;>obtain⟨⟨⟨q1,qt,qp⟩,q2,q3,q4⟩,⟨q5,q6⟩,⟨q7,q8⟩,q9⟩:=(show okRN l from hp)<;>(have hok:=Cy (Fb q1);have hh:l.page.addr.host.size<=4000000:=by have:=hok.2.1;simp only[szAddr] at this;omega)<;>(have hn:=Hf l.page;have hb:(busyOf l.conns).length=l.conns.length:=eh ..;have hw:=Jd (busyOf l.conns) (nextNeeds l.page);have hk:=AgV l;have ht:=λh=>Adw (l:=l) qt h)<;>(have hu:=Aai (a:=reqTo l) q8;have hf:=Fy (t:=l.page.addr.host) (a:=reqTo l) (g:=false) q9)<;>obtain⟨n1,n2,n3,n4⟩:=q9<;>(try simp only[Kj] at *)<;>(try simp only[std,Nat.reduceAdd,rn1,rn2,rn3] at *)<;>(first|trivial|omega|skip)<;>(obtain⟨⟨⟨⟨a1,a2,a3,a4⟩,e1⟩,e2⟩,e3⟩:=i2;simp only[e1,e3] at *)<;>(first|trivial|omega|(rw[AfE (l:=l.conns) (i:=y2.2.1.toNat) o_] at a4;rw[Ah o_,show(y2.2.1+1).toNat=y2.2.1.toNat+1 from o_];exact⟨⟨⟨⟨⟨o_,o_,by simp only[al,aw,aJ];omega,by rw[bB];exact a4⟩,by trivial⟩,e2⟩,by trivial⟩,o_⟩)|(have he:y2.1=busyOf l.conns:=by rw[Aec (l:=l.conns) (i:=y2.2.1.toNat) o_,cF] at a4;exact a4))<;>simp only[he,rn1,rn2,rn3] at *<;>(first|trivial|omega|skip)<;>(first|exact⟨o_,o_,o_,o_,o_⟩|exact⟨o_,o_⟩|exact⟨o_,⟨o_,o_⟩,o_⟩|skip)<;>(have hs1:(useGuess l.guesses (reqTo l)).2.1.body.size+(useGuess l.guesses (reqTo l)).2.1.bj.size<=1048576:=hu;have hs2:(fetchNow l.net l.page.addr.host (reqTo l) false).2.body.size+(fetchNow l.net l.page.addr.host (reqTo l) false).2.bj.size<=1048576:=hf)<;>(first|exact⟨q1,o_,o_,o_⟩|exact⟨o_,o_⟩|skip)<;>unfold requestNext<;>(first|(rw[I_ ‹_›];exact⟨rfl,rfl⟩)|(rw[J_ o_]))<;>(first|(rw[I_ ‹_›];exact⟨rfl,rfl⟩)|(rw[J_ (by rw[show(useGuess l.guesses (reqTo l)).2.2=false from ‹_›];decide)]))<;>(first|(rw[I_ o_];exact⟨rfl,rfl⟩)|(rw[J_ o_];exact⟨rfl,rfl⟩)|skip))
def AaR (l:List V_) (a:D_) (x:R_) (g:Bool):szL GQ (openConn l a x g).1<=szL GQ l+(szAddr a+Ad x+1):=by
 unfold openConn;split
 ·simp only;omega
 ·simp only;rw[Ek];simp only[GQ];omega
def H3 (p:C_) (m:Int) (to d:ByteArray) (n:Int):(addSlot p m to d n).1.addr=p.addr:=by unfold addSlot;split<;>rfl
def WN (p:C_) (a:D_):(askModule p a).addr=p.addr:=by unfold askModule;split<;>rfl
def RW (p:C_) (to:ByteArray):(addEntry p to).addr=p.addr:=by
 unfold addEntry;split
 ·exact WN p _
 ·rfl
def SY (p:C_) (t:ao) (n:Int):(element p t n).addr=p.addr:=by
 unfold element;split
 ·exact H3 ..
 ·split
  ·exact H3 ..
  ·rfl
def TZ (p:C_) (n:Int):(script p n).addr=p.addr:=by
 unfold script;split
 ·split<;>rfl
 ·split
  ·exact H3 ..
  ·split
   ·exact RW ..
   ·exact H3 p ..
def V0 (p:C_) (s:ByteArray):(say p s).addr=p.addr:=by unfold say;split<;>rfl
def Jo (p:C_) (c:ByteArray) (w:Bool):(runCode p c w).addr=p.addr:=by unfold runCode;split<;>rfl
def Pd (p:C_):(takeToken p).1.addr=p.addr:=by
 unfold takeToken;split
 ·rfl
 ·show(takeTok p _).addr=_;unfold takeTok;split
  ·exact SY _ _ _
  ·split
   ·exact TZ _ _
   ·rfl
def Ug (p:C_):(stepParser p).1.addr=p.addr:=by
 unfold stepParser;split
 ·unfold stepInline;split
  ·exact Jo _ _ _
  ·rfl
 ·split
  ·unfold stepBlock;split
   ·rfl
   ·split
    ·rfl
    ·split
     ·exact Jo _ _ _
     ·rfl
  ·exact Pd p
def LL (p:C_):∀ (l:List D_) (q:C_),(enterAll p q l).addr=q.addr
 | [],q=>rfl
 | b::l,q=>by have:=LL p l (enter1 p q b);refine this.trans ?_;unfold enter1;split<;>rfl
def XX (p:C_) (a:D_):(enter p a).addr=p.addr:=by
 unfold enter;split
 ·exact V0 _ _
 ·exact LL p _ p
def Zm (p:C_):(stepTail p).1.addr=p.addr:=by
 unfold stepTail;split
 ·rfl
 ·split
  ·unfold tailDefer;split
   ·rfl
   ·split
    ·exact Jo _ _ _
    ·rfl
  ·split
   ·unfold tailEnter;split
    ·rfl
    ·exact XX _ _
   ·split
    ·rfl
    ·exact V0 _ _
def QK:∀ (n:Nat) (p:C_),(adv n p).addr=p.addr
 | 0,p=>rfl
 | n+1,p=>by
  rw[adv];split
  ·refine(QK n _).trans ?_;unfold step1;split
   ·exact Ug p
   ·exact Zm p
  ·rfl
def TB:∀ (l:List D_) (p:C_),(l.foldl askModule p).addr=p.addr
 | [],p=>rfl
 | b::l,p=>(TB l (askModule p b)).trans (WN p b)
def I7 (p:C_) (a:D_) (x:R_):(takeAnswer p a x).addr=p.addr:=by
 refine(QK 2000 _).trans ?_;unfold fillModule;split
 ·rfl
 ·exact TB _ _
abbrev Adr:Fct:=⟨[.v (.el .request),.p (.el .conn)],[.el .bool],λ(x:ar×V_×Unit)=>True,λ(x:ar×V_×Unit)=>(decide (x.1.to=x.2.1.to),())⟩
def Alg:=AjC.a Adr<|Fct.o [1,2,3] AjC.2 func58 (by
 rintro⟨(r:ar),(c:V_),_⟩ hp;exact hq (.lf Adr (r.to.host==c.to.host&&(r.to.path==c.to.path&&true),())))
abbrev AW:Fct:=⟨[aL .request,.c 58 [.el .conn]],[rI],λx=>x.1.length<=1000000000000000000/\∀ c,Adr.pre (c,x.2.1),λx=>(fidx (λc=>(Adr.fn (c,x.2.1)).1) x.1 0,())⟩
abbrev Ao (l:(List ar)) (u:(V_×Unit)):LInv:=⟨[⟨.s,8,true,.el .int⟩],λ_ (x:B_)=>0<=x.1/\x.1<=l.length/\fidx (λc=>(Adr.fn (c,u)).1) l 0=fidx (λc=>(Adr.fn (c,u)).1) (l.drop x.1.toNat) x.1,λ(x:B_)=>l.length-x.1.toNat⟩
def AjD:=Alg.a AW<|Fct.p (KP [0,1,4,5,7,8] [9,16]) (λ⟨l,u,_⟩=>lv [(2,Ao l u)]) Alg.2 func143 (by
 rintro⟨(l:List ar),(u:V_×PUnit),_⟩ hp;refine ho (lpx (Ao l u) ((0:Int),()) λ(y1:B_) bk1=>.br (decide (y1.1<(l.length:Int))) (.ob (inB y1.1 l.length)<|.cl Adr (l.getD y1.1.toNat default,u.1,()) λz2=>.br (z2.1) (.lf AW (y1.1,())) (.re (l)<|.re (enc Ty.conn u.1)<|.re (Value.int IntKind.i64 (l.length:Int))<|.bk (bk1 (w1 y1.1,())))) (.lf AW ((-1:Int),()))) ?_;refine Am ?_ λ(y1:B_) i1=>Aa (λh2=>Ab ?_ λ_=>Ae trivial λ_=>Aa (λh4=>lfY ?_) λh4=>Ai<|Ai<|Ai<|AR ?_) (λh2=>lfY ?_)<;>(try simp only[std,Nat.reduceAdd] at *)<;>(try have hp2:=hp.2)<;>(try have hp1:=hp.1)<;>(first|trivial|omega|grind[FS,A_,HO,G_,F_,maxLen,fidx]))
abbrev Ba:Fct:=⟨[aL .request,.c 58 [.el .conn]],[rB],λx=>x.1.length<=1000000000000000000/\∀ c,Adr.pre (c,x.2.1),λx=>(x.1.any λc=>(Adr.fn (c,x.2.1)).1,())⟩
def AkE:=AjD.a Ba<|Fct.o [0,1,4] AjD.2 func57 (by
 rintro⟨(l:List ar),(u:V_×PUnit),_⟩ hp;refine ho (.cl AW (l,(u.1,()),()) λ(z2:B_)=>.lf Ba (decide (z2.1>=0),())) ?_;refine Ae ?_ λ_=>(lfY ?_)<;>(try simp only[std,Nat.reduceAdd] at *)<;>(first|trivial|omega|(rw[Bool.eq_iff_iff];exact decide_eq_true_iff.trans (Kz _ _ _ o_))))
def needsTo (p:C_) (a:D_):Bool:=(nextNeeds p).any λr=>decide (r.to=a)
def finishC (l:N_) (c:V_):N_ :=
 if needsTo l.page c.to=true then(if c.guess=true then{ l with net:=keepAnswer l.net l.page.addr.host c.to c.bd,page:=takeAnswer l.page c.to c.bd } else{ l with page:=takeAnswer l.page c.to c.bd })
 else if c.guess=true then{ l with guesses:=(addGuess l.guesses c.to c.bd).1 } else l
def finish1 (l:N_) (k:Int):N_:=finishC { l with conns:=closeConn l.conns k } (l.conns.getD k.toNat default)
def okFin (l:N_):Prop:=(okFM l.page/\l.page.bf.length+l.page.bh.length<=1000000000000)/\(l.conns.length<=1048576/\okCs l.conns)/\l.guesses.length<=4194304/\szNet l.net<=10000000000/\szCache l.net.cache<=90000000
def Afg {α:Type} [Inhabited α] (f:α->Bool) {l:List α} {i:Nat} (h:i<l.length):(l.drop i).any f=(f (l.getD i default)||(l.drop (i+1)).any f):=by rw[HO h];rfl
def Ac8 {α:Type} (f:α->Bool) {l:List α} {i:Nat} (h:l.length<=i):(l.drop i).any f=false:=by rw[bR h];rfl
abbrev JE:GS:=⟨[.g (.el .loader),.l (.v (.el .int))],[.el .loader],λ(x:cg)=>okFin x.1/\0<=x.2.1/\x.2.1<x.1.conns.length,λ(x:cg)=>((finish1 x.1 x.2.1,()),(()))⟩
abbrev Cw (l:N_) (k:Int):LInv:=⟨[⟨.s,7,true,.el .int⟩,⟨.b,2,true,.el .loader⟩,⟨.b,4,true,.el .loader⟩,⟨.b,5,true,.el .conn⟩,⟨.s,6,true,.sl .request⟩],λ_ (x:dY)=>x.2.1={ l with conns:=closeConn l.conns k }/\x.2.2.2.1=l.conns.getD k.toNat default/\x.2.2.2.2.1=nextNeeds l.page/\0<=x.1/\x.1<=(nextNeeds l.page).length/\((nextNeeds l.page).drop x.1.toNat).any (λr=>decide (r.to=(l.conns.getD k.toNat default).to))=needsTo l.page (l.conns.getD k.toNat default).to,λ(x:dY)=>(nextNeeds l.page).length-x.1.toNat⟩
def AjG:=AkE.G JE<|GS.of (S:=JE) (L:=λ⟨l,k,_⟩=>λ|5=>some (Cw l k)|_=>none) (kp:=(KP [1,2,4,5,6,7] [24,34,36,59])) AkE.2 func81 k_ k_ (by
 rintro⟨(l:N_),(k:Int),_⟩ hp;refine ho (.ix k l.conns.length<|.cl Ef (l.conns,k,()) λz2=>.cl Fu (l.page,()) λz3=>lpx (Cw l k) ((0:Int),(({l with conns:=z2.1}:N_),(default,(l.conns.getD k.toNat default,(z3.1,()))))) λ(y5:dY) bk5=>let E_:=y5.2.2.2.2.1.getD y5.1.toNat default;.br (decide (y5.1<(y5.2.2.2.2.1.length:Int))) (.ix y5.1 y5.2.2.2.2.1.length<|.br (E_.to.host==y5.2.2.2.1.to.host&&(E_.to.path==y5.2.2.2.1.to.path&&true)) (.br (y5.2.2.2.1.guess) (.cl AX (y5.2.1.net,y5.2.1.page.addr.host,y5.2.2.2.1.to,y5.2.2.2.1.bd,()) λz4=>.cl CM (y5.2.1.page,y5.2.2.2.1.to,y5.2.2.2.1.bd,()) λz5=>GS.out JE (({y5.2.1 with net:=z4.1,page:=z5.1},()),(()))) (.cl CM (y5.2.1.page,y5.2.2.2.1.to,y5.2.2.2.1.bd,()) λz6=>GS.out JE (({y5.2.1 with page:=z6.1},()),(())))) (.re (Value.int IntKind.i64 k)<|.bk (bk5 (w1 y5.1,(y5.2.1,(y5.2.2.1,(y5.2.2.2.1,(y5.2.2.2.2.1,())))))))) (.br (y5.2.2.2.1.guess) (.cl EF (y5.2.1.guesses,y5.2.2.2.1.to,y5.2.2.2.1.bd,()) λz7=>GS.out JE (({y5.2.1 with guesses:=z7.1},()),(()))) (GS.out JE ((y5.2.1,()),(()))))) ?_;repeat' (guard_target =~ Out.holds _ _;first|refine Am (li:=Cw l k) ?_ λ(y5:dY) i5=>?_|refine GS.leafY ?_|refine Aa (λ_=>?_) λ_=>?_|refine Ae ?_ λ_=>?_|refine AR ?_|refine Ai ?_|refine Ei ?_ λ_ _=>?_)
 all_goals obtain⟨⟨⟨q1,q2⟩,⟨q3,q4⟩,q5,q6,q7⟩,q8,q9⟩:=(show okFin l/\0<=k/\k<l.conns.length from hp)<;>(try simp only[Kj] at *)<;>(try simp only[std,Nat.reduceAdd] at *)<;>(first|trivial|omega|exact⟨o_,o_,rfl⟩|skip)<;>(have hc:=q4 _ (AH (show k.toNat<l.conns.length from o_));have hc1:(l.conns.getD k.toNat default).bd.body.size+(l.conns.getD k.toNat default).bd.bj.size<=1048576:=hc.1;have hok:=Cy (Fb q1);have hn:=Hf l.page;have hh:l.page.addr.host.size<=4000000:=by have:=hok.2.1;simp only[szAddr] at this;omega)<;>(obtain⟨e1,e2,e3,a1,a2,a3⟩:=i5;simp only[e1,e2,e3,Ev,aH,ca] at *)<;>(first|trivial|omega|exact⟨o_,o_,o_,o_,o_⟩|exact⟨q1,o_,o_,o_⟩|skip)<;>(first|(have e:=Afg (λr:ar=>decide (r.to=(l.conns.getD k.toNat default).to)) (l:=nextNeeds l.page) (i:=y5.1.toNat) o_)|(have e:=Ac8 (λr:ar=>decide (r.to=(l.conns.getD k.toNat default).to)) (l:=nextNeeds l.page) (i:=y5.1.toNat) o_))<;>rw[a3] at e<;>(first|(rw[show decide (((nextNeeds l.page).getD y5.1.toNat default).to=(l.conns.getD k.toNat default).to)=false from decide_eq_false ‹_›,Bool.false_or] at e;rw[Ah o_,show(y5.1+1).toNat=y5.1.toNat+1 from o_];exact⟨⟨trivial,trivial,trivial,o_,o_,e.symm⟩,o_⟩)|skip)<;>(first|(rw[show decide (((nextNeeds l.page).getD y5.1.toNat default).to=(l.conns.getD k.toNat default).to)=true from ee ‹_›,Bool.true_or] at e)|skip)<;>(first|(have hg:(l.conns.getD k.toNat default).guess=true:=by assumption)|(have hg:(l.conns.getD k.toNat default).guess=false:=by assumption)|skip)<;>(unfold finish1 finishC;dsimp only;simp only[e,hg,cX,aS,bC]))
def HJ {s:ByteArray} (h:isName s=true):s.size<=8:=by
 unfold isName at h;simp only[Z_,aH] at h;exact h.2.2
def Zs (p:aN):(formatPolicy p).size<=300:=by
 unfold formatPolicy;split
 ·rename_i h;simp only[Z_] at h;obtain⟨a1,a2,a3,a4,a5,a6,a7⟩:=FK h.1 h.2;have b1:=IB p.bp ⟨#[115,99,114,105,112,116]⟩ a1;have b2:=IB p.styles ⟨#[115,116,121,108,101]⟩ a3;have b3:=IB p.images ⟨#[105,109,103]⟩ a5;have c1:(⟨#[115,99,114,105,112,116]⟩:ByteArray).size=6:=rfl;have c2:(⟨#[115,116,121,108,101]⟩:ByteArray).size=5:=rfl;have c3:(⟨#[105,109,103]⟩:ByteArray).size=3:=rfl;have c4:(⟨#[59]⟩:ByteArray).size=1:=rfl;have c5:(⟨#[59,110,111,110,99,101,32]⟩:ByteArray).size=7:=rfl;split<;>(simp only[aQ];omega)
 ·exact Nat.zero_le _
def K4 {x:R_} (h:isResponse x=true):Ad x<=700:=by
 unfold isResponse at h;simp only[Z_,aH] at h;obtain⟨_,_,h1,_,h2⟩:=h;have h3:x.bj.size<=300:=by
  unfold parsePolicy at h2;split at h2
  ·rename_i e;rw[e];exact Nat.zero_le _
  ·split at h2
   ·rename_i e;rw[<-e.2];exact Zs _
   ·cases h2
 simp only[Ad];omega
def Wj {all:List bU}:∀ {l:List bU} {k:Int},entOk all l k=true->szL AY l<=800*l.length
 | [],_,_=>aa _
 | e::l,k,h=>by simp only[entOk,Z_] at h;obtain⟨⟨⟨⟨⟨h1,h2,h3⟩,h4⟩,_⟩,_⟩,h5⟩:=h;have a1:=HJ h1;have a2:=HJ h2;have a3:=HJ h3;have a4:=K4 h4;have a5:=Wj h5;rw[Ag,aw];simp only[AY,szAddr];omega
def Xv {c:bv} (h:isCache c=true):szCache c<=80000:=by
 unfold isCache at h;simp only[Z_,aH] at h;have:=Wj h.1;simp only[szCache];omega
def K6 (c:bv) (t:ByteArray) (a:D_) (x:R_) (now:Int) {B:Nat} (h:szCache c<=B) (hB:80000<=B):szCache (storeEntry c t a x now)<=B:=by
 unfold storeEntry;split
 ·rename_i q;exact bT (Xv q.2.2.2) hB
 ·exact h
def okNk (n:az):Prop:=szNet n<=szCache n.cache+9000000000/\szCache n.cache<=90000000
def keep_okNk {n:az} (h:okNk n) (t:ByteArray) (a:D_) (x:R_):okNk (keepAnswer n t a x):=by
 unfold keepAnswer;split
 ·have:=K6 n.cache t a x n.now h.2 o_;refine⟨?_,this⟩;have h1:=h.1;simp only[szNet] at *;omega
 ·exact h
def wB (x:R_):Nat:=min 400 x.body.size
def wCs (l:List V_):Nat:=(l.map λc=>wB c.bd).sum
def Abo (p:aN) (r:ar) (x:R_):(usable p r x).1.size<=wB x:=by
 have h1:=K5 p r x;have h2:(usable p r x).1.size<=x.body.size:=by
  unfold usable;split
  ·exact aa _
  ·exact Nat.zero_le _
 unfold wB;omega
def Ph {p:C_} {Q M R:Nat} (h:okAll p Q M R) (a:D_) (x:R_):okAll (fillModule p a x) Q (M+600*wB x) (R+20*wB x):=by
 have mono:∀ {q:C_} {M' R':Nat},okAll q Q M' R'->M'<=M+600*wB x->R'<=R+20*wB x->okAll q Q (M+600*wB x) (R+20*wB x):=λh hM hR=>by obtain⟨h1,h2,h3,⟨h4,h5,h6,h7⟩,h8⟩:=h;exact⟨h1,h2,h3,⟨h4,o_,o_,h7⟩,h8⟩
 unfold fillModule;split
 ·exact mono h o_ o_
 ·rename_i hc;have h0:0<=findMod p.bh a:=o_
  have hd:(p.bh.getD (findMod p.bh a).toNat default).done=false:=by
   cases hq:(p.bh.getD (findMod p.bh a).toNat default).done with
   | false=>rfl
   | true=>exact absurd (.inr hq) hc
  obtain⟨i1,_⟩:=MG (x:=x) h0;have i2:(imports (fillM0 p a x) a).1.length<=wB x:=by
   obtain⟨_,h2⟩:=Fq (fillM0 p a x) a;obtain⟨f1,f2⟩:=IJ p a x h0;rw[f1,f2] at h2;rcases h2 with h2|⟨_,h2⟩
   ·rw[h2];exact Nat.zero_le _
   ·exact bT h2 (Abo ..)
  exact mono (Vg _ _ M R (NY h a x h0 hd) i1) o_ o_
def Mz {p:C_} {Q M R:Nat} (h:okAll p Q M R) (a:D_) (x:R_):okAll (takeAnswer p a x) (Q+740000) (M+600*wB x) (R+20*wB x):=by
 have:=NI h a x p.bf.length;rw[JX (aa _)] at this;exact Qr (Ph this a x)
def okPot (l:N_):Prop:=∃ Q M R,okAll l.page Q M R/\Q+740000*l.conns.length<=899000000000/\M+600*wCs l.conns<=49000000000/\R+20*wCs l.conns<=19000000000
def okT (l:N_):Prop:=okPot l/\(okCs l.conns/\l.conns.length<=1048576/\l.guesses.length+l.conns.length<=4194304)/\okNk l.net
def Ve {l:N_} (h:okT l):okFin l:=by
 obtain⟨⟨Q,M,R,h1,h2,h3,h4⟩,⟨h5,h6a,h6⟩,h7,h8⟩:=h;have hf:okFM l.page:=⟨Q,M,R,h1,o_,o_,o_⟩;have hp:=Cy (Fb hf);exact⟨⟨hf,o_⟩,⟨o_,h5⟩,o_,o_,h8⟩
def JW {l:List V_} {k:Int} (h0:0<=k) (h:k<l.length):closeConn l k=l.take k.toNat++l.drop (k.toNat+1):=by unfold closeConn;rw[I_ ⟨h0,h⟩]
def JI {l:List V_} {k:Int} (h0:0<=k) (h:k<l.length):(closeConn l k).length+1=l.length:=by
 rw[JW h0 h,al,bS,dn];omega
def S5 {l:List V_} {k:Int} (h0:0<=k) (h:k<l.length):wCs (closeConn l k)+wB (l.getD k.toNat default).bd=wCs l:=by
 have e:l.take k.toNat++l.getD k.toNat default::l.drop (k.toNat+1)=l:=by rw[<-HO (show k.toNat<l.length from o_),eg]
 have g:wCs (l.take k.toNat++l.getD k.toNat default::l.drop (k.toNat+1))=wCs l:=by rw[e]
 rw[JW h0 h];unfold wCs at *
 simp only[List.map_append,bZ,List.sum_append,List.sum_cons] at *
 omega
def AcT {l:List V_} {k:Int} (h0:0<=k) (h:k<l.length):szL GQ (closeConn l k)+(GQ (l.getD k.toNat default)+1)=szL GQ l:=by
 have e:l.take k.toNat++l.getD k.toNat default::l.drop (k.toNat+1)=l:=by rw[<-HO (show k.toNat<l.length from o_),eg]
 have g:szL GQ (l.take k.toNat++l.getD k.toNat default::l.drop (k.toNat+1))=szL GQ l:=by rw[e]
 rw[JW h0 h];rw[Cr,Ag] at g;rw[Cr];omega
def We {l:List V_} {k:Int} (h0:0<=k) (h:k<l.length) (ho:okCs l):okCs (closeConn l k):=by
 rw[JW h0 h];intro c hc;rcases aR.1 hc with q|q
 ·exact ho c (gu q)
 ·exact ho c (gw q)
def VP (l:List au) (a:D_) (x:R_):(addGuess l a x).1.length<=l.length+1:=by
 unfold addGuess;split
 ·exact Nat.le_succ _
 ·simp only[al,aw,aJ];omega
def Aff (l:List au) (a:D_) (x:R_):szL Fl (addGuess l a x).1<=szL Fl l+(szAddr a+Ad x+1):=by
 unfold addGuess;split
 ·simp only;omega
 ·simp only;rw[Ek];simp only[Fl];omega
def Tw (l:N_) (k:Int):(finish1 l k).conns=closeConn l.conns k:=by
 unfold finish1 finishC;split
 ·split<;>rfl
 ·split<;>rfl
def Adq {l:N_} {k:Int} (h:okT l) (h0:0<=k) (hk:k<l.conns.length):okT (finish1 l k):=by
 obtain⟨⟨Q,M,R,h1,h2,h3,h4⟩,⟨h5,h6a,h6⟩,h7⟩:=h;have c1:=JI h0 hk;have c2:=S5 h0 hk;have c3:=We h0 hk h5;have ha:=Mz h1 (l.conns.getD k.toNat default).to (l.conns.getD k.toNat default).bd;have hg:=VP l.guesses (l.conns.getD k.toNat default).to (l.conns.getD k.toNat default).bd;unfold finish1 finishC;dsimp only;split
 ·split
  ·exact⟨⟨_,_,_,ha,by dsimp only;omega,by dsimp only;omega,by dsimp only;omega⟩,⟨c3,by dsimp only;omega,by dsimp only;omega⟩,keep_okNk h7 _ _ _⟩
  ·exact⟨⟨_,_,_,ha,by dsimp only;omega,by dsimp only;omega,by dsimp only;omega⟩,⟨c3,by dsimp only;omega,by dsimp only;omega⟩,h7⟩
 ·split
  ·exact⟨⟨_,_,_,h1,by dsimp only;omega,by dsimp only;omega,by dsimp only;omega⟩,⟨c3,by dsimp only;omega,by dsimp only;omega⟩,h7⟩
  ·exact⟨⟨_,_,_,h1,by dsimp only;omega,by dsimp only;omega,by dsimp only;omega⟩,⟨c3,by dsimp only;omega,by dsimp only;omega⟩,h7⟩
def Da:∀ (l:List V_) (z:Int),0<=z->-1<=firstDone l z/\firstDone l z<z+l.length/\(firstDone l z<0\/z<=firstDone l z)
 | [],z,h=>by
  rw[firstDone,aJ];omega
 | c::l,z,h=>by have:=Da l (z+1) o_;rw[firstDone,aw];split<;>omega
def xfer:Nat->N_->N_
 | 0,l=>l
 | n+1,l=>if firstDone l.conns 0<0 then l else xfer n (finish1 l (firstDone l.conns 0))
def AbQ {l:N_} (h:firstDone l.conns 0<0):∀ n,xfer n l=l
 | 0=>rfl
 | n+1=>by rw[xfer,I_ h]
def Af0 {l:N_} {n:Nat} (h:0<=firstDone l.conns 0):xfer (n+1) l=xfer n (finish1 l (firstDone l.conns 0)):=by rw[xfer,J_ o_]
def moved (l:N_) (b:Int):N_:={ l with conns:=moveConns l.conns b }
def transfer (l:N_) (b:Int):N_×Bool:=if l.conns.length=0\/inRange b 1 1000=false then(l,false) else(xfer l.conns.length (moved l b),true)
def AeX (l:List V_) (b:Int):wCs (moveConns l b)=wCs l:=by
 unfold moveConns;split
 ·unfold wCs;rw[ek];rfl
 ·rfl
def AgR (l:List V_) (b:Int):szL GQ (moveConns l b)=szL GQ l:=by
 unfold moveConns;split
 ·unfold szL;rw[ek,eh];rfl
 ·rfl
def Aa6 {l:List V_} (b:Int) (h:okCs l):okCs (moveConns l b):=by
 unfold moveConns;split
 ·intro c hc;obtain⟨d,hd,rfl⟩:=eu.1 hc;exact h d hd
 ·exact h
def Acj {l:N_} (h:okT l) (b:Int):okT (moved l b):=by
 obtain⟨⟨Q,M,R,h1,h2,h3,h4⟩,⟨h5,h6a,h6⟩,h7⟩:=h;have e1:=Cb l.conns b;have e2:=AeX l.conns b;unfold moved;exact⟨⟨Q,M,R,h1,by dsimp only;omega,by dsimp only;omega,by dsimp only;omega⟩,⟨Aa6 b h5,by dsimp only;omega,by dsimp only;omega⟩,h7⟩
def xInv (l0 l:N_) (n:Nat):Prop:=okT l/\l.conns.length<=n/\xfer n l=l0
def S8 {l0 l:N_} {n:Nat} (h:xInv l0 l (n+1)) (h0:0<=firstDone l.conns 0):xInv l0 (finish1 l (firstDone l.conns 0)) n:=by
 obtain⟨h1,h2,h3⟩:=h;have hd:=Da l.conns 0 o_;rw[Af0 h0] at h3;have hl:=JI h0 (show firstDone l.conns 0<l.conns.length from o_);exact⟨Adq h1 h0 o_,by rw[Tw];omega,h3⟩
def SF {l0 l:N_} {n:Nat} (h:xInv l0 l n) (h0:firstDone l.conns 0<0):l=l0:=by
 have:=h.2.2
 rwa [AbQ h0] at this
def okTr (l:N_):Prop:=okT l/\l.parts.length<=1000000000
def LM {l:N_} (h:okT l) (hp:l.parts.length<=1000000000):szNet l.net<=68719476736/\Aj l.page<=1099511627776/\l.parts.length<=1000000000/\l.conns.length<=1048576/\l.guesses.length<=4194304:=by
 have hf:=Ve h;have hq:=Cy (Fb hf.1.1);exact⟨by have:=hf.2.2.2.1;omega,o_,hp,hf.2.1.1,hf.2.2.1⟩
def Adh {l:N_} {b:Int} (h:l.conns.length=0\/inRange b 1 1000=false):transfer l b=(l,false):=by unfold transfer;rw[I_ h]
def Ae0 {l:N_} {b:Int} (h1:¬ l.conns.length=0) (h2:inRange b 1 1000=true):transfer l b=(xfer l.conns.length (moved l b),true):=by
 unfold transfer;rw[J_ (by rintro(q|q);exact h1 q;rw[h2] at q;cases q)]
def AeI {l:N_} (h:okT l) (b:Int):xInv (xfer l.conns.length (moved l b)) { net:=l.net,page:=l.page,parts:=l.parts,conns:=moveConns l.conns b,guesses:=l.guesses } l.conns.length:=⟨Acj h b,Nat.le_of_eq (Cb l.conns b),rfl⟩
def YX {l0 l:N_} (h:xInv l0 l l.conns.length) (h0:0<=firstDone l.conns 0):xInv l0 (finish1 l (firstDone l.conns 0)) (closeConn l.conns (firstDone l.conns 0)).length:=by
 have hd:=Da l.conns 0 o_;have hl:=JI h0 (show firstDone l.conns 0<l.conns.length from o_);rw[<-hl] at h;exact S8 h h0
def AiM {l:N_} {k:Int} (h1:needsTo l.page (l.conns.getD k.toNat default).to=true) (h2:(l.conns.getD k.toNat default).guess=true):finish1 l k={ net:=keepAnswer l.net l.page.addr.host (l.conns.getD k.toNat default).to (l.conns.getD k.toNat default).bd,page:=takeAnswer l.page (l.conns.getD k.toNat default).to (l.conns.getD k.toNat default).bd,parts:=l.parts,conns:=closeConn l.conns k,guesses:=l.guesses }:=by
 unfold finish1 finishC;dsimp only;rw[I_ h1,I_ h2]
def Ajf {l:N_} {k:Int} (h1:needsTo l.page (l.conns.getD k.toNat default).to=true) (h2:(l.conns.getD k.toNat default).guess=false):finish1 l k={ net:=l.net,page:=takeAnswer l.page (l.conns.getD k.toNat default).to (l.conns.getD k.toNat default).bd,parts:=l.parts,conns:=closeConn l.conns k,guesses:=l.guesses }:=by
 unfold finish1 finishC;dsimp only;rw[I_ h1,J_ (by rw[h2];decide)]
def AiD {l:N_} {k:Int} (h1:needsTo l.page (l.conns.getD k.toNat default).to=false) (h2:(l.conns.getD k.toNat default).guess=true):finish1 l k={ net:=l.net,page:=l.page,parts:=l.parts,conns:=closeConn l.conns k,guesses:=(addGuess l.guesses (l.conns.getD k.toNat default).to (l.conns.getD k.toNat default).bd).1 }:=by
 unfold finish1 finishC;dsimp only;rw[J_ (by rw[h1];decide),I_ h2]
def Aiv {l:N_} {k:Int} (h1:needsTo l.page (l.conns.getD k.toNat default).to=false) (h2:(l.conns.getD k.toNat default).guess=false):finish1 l k={ net:=l.net,page:=l.page,parts:=l.parts,conns:=closeConn l.conns k,guesses:=l.guesses }:=by
 unfold finish1 finishC;dsimp only;rw[J_ (by rw[h1];decide),J_ (by rw[h2];decide)]
abbrev Ea:Fct:=⟨[.v (.el .loader),.v (.el .int)],[.el .loader,.el .bool],λ(x:cg)=>okTr x.1,λ(x:cg)=>((transfer x.1 x.2.1).1,(transfer x.1 x.2.1).2,())⟩
abbrev DX (l:N_) (b:Int):LInv:=⟨[⟨.b,6,true,.el .loader⟩,⟨.s,7,true,.el .int⟩,⟨.b,2,false,.el .loader⟩,⟨.b,4,true,.el .loader⟩],λ(z x:dZ)=>((0<=x.2.1/\x.2.1<=l.conns.length/\xInv (xfer l.conns.length (moved l b)) x.1 (l.conns.length-x.2.1.toNat))/\x.2.2.1=z.2.2.1)/\x.2.2.2.1=z.2.2.2.1,λ(x:dZ)=>l.conns.length-x.2.1.toNat⟩
def Aj0:=AjG.a Ea<|Fct.p (KP [1,2,4,5,6,7,8] [19,30,37]) (λ⟨l,b,_⟩=>lv [(6,DX l b)]) AjG.2 func14 (by
 rintro⟨(l:N_),(b:Int),_⟩ hp;refine ho (.cl A9 (l,()) λz2=>.br ((l.conns.length:Int)==0) (.lf Ea (z2.1,false,())) (.cl Au (b,(1:Int),(1000:Int),()) λz3=>.br (!z3.1) (.lf Ea (z2.1,false,())) (.cl TN (l.conns,b,()) λz4=>lpx (DX l b) ((⟨z2.1.net,z2.1.page,z2.1.parts,z4.1,z2.1.guesses⟩:N_),((0:Int),(l,(default,())))) λ(y5:dZ) bk5=>.br (decide (y5.2.1<(y5.2.2.1.conns.length:Int))) (.cl O3 (y5.1.conns,()) λ(z5:B_)=>.br (decide (z5.1<0)) (.lf Ea (y5.1,true,())) (.ob (JE.pre (y5.1,z5.1,()))<|.lt _ (JE.fn (y5.1,z5.1,())) λz6=>.re (Value.int IntKind.i64 b)<|.bk (bk5 (z6.1.1,(w1 y5.2.1,(y5.2.2.1,(y5.2.2.2.1,()))))))) (.lf Ea (y5.1,true,()))))) ?_;refine Ae ?_ λ_=>(Aa (λh2=>lfY ?_) λh2=>Ae trivial λ_=>Aa (λh3=>lfY ?_) λh3=>Ae ?_ λ_=>Am ?_ λ(y5:dZ) i5=>Aa (λh6=>Ae ?_ λ_=>Aa (λh8=>lfY ?_) λh8=>Ab ?_ λ_=>DS (Ai<|AR ?_)) λh6=>lfY ?_)<;>obtain⟨q1,q2⟩:=(show okTr l from hp)<;>(have hc:=LM q1 q2;try simp only[Kj] at *)<;>(try simp only[std,Nat.reduceAdd] at *)<;>(first|trivial|omega|exact hc|exact hc.2.2.2.1|(rw[Adh (.inl o_)];exact⟨rfl,rfl⟩)|(rw[Adh (.inr ‹_›)];exact⟨rfl,rfl⟩)|exact⟨o_,o_,AeI q1 b⟩|skip)<;>(obtain⟨⟨⟨a1,a2,a3⟩,e1⟩,e2⟩:=i5;simp only[e1] at *)<;>(have hf:=Ve a3.1;have hd:=Da y5.1.conns 0 o_;have ha:=a3.2.1)<;>(first|trivial|omega|exact hf.2.1.1|exact⟨hf,o_,o_⟩|(rw[Ae0 o_ ‹_›];exact⟨SF a3 o_,rfl⟩)|skip)<;>rw[show l.conns.length-y5.2.1.toNat=(l.conns.length-(y5.2.1.toNat+1))+1 from o_] at a3<;>rw[Ah o_,show(y5.2.1+1).toNat=y5.2.1.toNat+1 from o_]<;>exact⟨⟨⟨⟨o_,o_,S8 a3 o_⟩,by trivial⟩,e2⟩,o_⟩)
abbrev Cs (l:N_) (b:Int):LInv:=⟨[⟨.b,6,true,.el .loader⟩,⟨.b,4,true,.el .loader⟩],λ(z x:dF)=>(xInv (xfer l.conns.length (moved l b)) x.1 x.1.conns.length)/\x.2.1=z.2.1,λ(x:dF)=>x.1.conns.length⟩
end Go.Proofs.YthpiiodbmkjmjaaGreatDoor.fnThrifty
