/-
  Contracts of functions that the law of FnOthersLearn reaches, part 3.
-/
import Derived.Test.YtfklkhgmgglloaaGreatVPOthersLearn2
namespace Go.Proofs.YtfklkhgmgglloaaGreat.fnOthersLearn
open Go.Proofs.YtfklkhgmgglloaaGreat
open Go.D Go.Proofs.Tryz
set_option maxRecDepth 100000
set_option maxHeartbeats 2000000
set_option linter.defProp false
set_option linter.unusedVariables false
set_option linter.unusedSimpArgs false
def Ant:=Ams.a GP<|Fct.p (KP [2,3,4,5,6,8] [15,28]) (λ⟨p,a,_⟩=>lv [(3,B1 p a)]) Ams.2 func147 (by
 rintro⟨(p:HO),(a:FS),_⟩ hp;refine ho (.cl JV (p,a,()) λz2=>lpx (B1 p a) ((0:Int),(p,(z2.1,()))) λ(y2:bX) bk2=>.br (decide (y2.1<(y2.2.2.1.length:Int))) (.ix y2.1 y2.2.2.1.length<|.cl FR (y2.2.1,y2.2.2.1.getD y2.1.toNat default,()) λz3=>.br (!z3.2.1) (.lf GP (true,())) (.bk (bk2 (w1 y2.1,(y2.2.1,(y2.2.2.1,())))))) (.lf GP (false,()))) ?_;refine Aj ?_ λ_=>(Aq ?_ λ(y2:bX) i2=>Aa (λh3=>CW ?_ λo4 o5=>Aj ?_ λ_=>Aa (λh7=>lfY ?_) λh7=>AR ?_) λh3=>lfY ?_)<;>obtain⟨p1,p2,p3,p4,p5⟩:=(show okVis p a [] [] from hp)<;>(have hl:=Ns (a:=a) p4;try simp only[AA] at *)<;>(try simp only[std,Nat.reduceAdd] at *)<;>(first|trivial|omega|exact⟨p1,p2,p3,p4,p5⟩|exact⟨o_,o_,rfl⟩|skip)<;>(obtain⟨⟨⟨i0,i1,i3⟩,e1⟩,e2⟩:=i2;simp only[e1,e2] at *)<;>(first|assumption|omega|exact⟨p1,p2,Ok (Ae o_) p3⟩|skip)<;>(first|(rw[AhQ o_] at i3;exact i3)|rw[Ako o_] at i3)<;>(first|(rw[<-i3,show Prod.snd (imports p _)=false from ‹_›];rfl)|(rw[show Prod.snd (imports p _)=true from ‹_›,Bool.not_true,Bool.false_or] at i3;rw[Aw o_,show(y2.1+1).toNat=y2.1.toNat+1 from o_];simp only[and_true];exact⟨⟨o_,o_,i3⟩,o_⟩)))
def bpot (b:aj):Nat:=szBuilder b+10*(40-b.bj.length)
def UY (b:aj) (l:List bA) (x:bM):bpot (runLine b l x).1<=bpot b:=by
 unfold runLine;split
 ·exact Y_ _
 ·split
  ·dsimp only;split
   ·rename_i h;obtain⟨h1,h2,h3⟩:=h;have:=AX h3;have h0:szL AF []=0:=rfl;have h4:szL BH []=0:=rfl;have h5:ByteArray.size ⟨#[]⟩=0:=rfl;simp only[bpot,szBuilder,B0,Ah,h0,AF,h4,h5,ak,aq,aU];omega
   ·exact Y_ _
  ·grind
def Ll (l:List bA):∀ (r:List bM) (b:aj) (w:ByteArray) (g:List ByteArray),bpot (runLines l r b w g).1<=bpot b
 | [],b,w,g=>Y_ _
 | x::r,b,w,g=>by rw[runLines];exact aR (Ll l r _ _ _) (UY b l x)
def Q8 (b:aj) (l:List bA) (r:List bM):bpot (runScript b l r).1<=bpot b:=Ll l r b _ _
def Qm (b:aj) (l:List bA) (r:List bM):(runScript b l r).2.2.length<=r.length:=by
 have:=(Jg l r b ⟨#[]⟩ []).2.2;show(runLines l r b ⟨#[]⟩ []).2.2.length<=_;simpa using this
def Od (b:ByteArray):∀ (l:List ByteArray) (acc:List FS),szL Ea (pmGo b l acc).2.1<=366/\(pmGo b l acc).2.1.length<=6
 | [],acc=>⟨Nat.zero_le _,Nat.zero_le _⟩
 | w::l,acc=>by
  rw[pmGo];split
  ·split
   ·exact Od b l _
   ·exact⟨Nat.zero_le _,Nat.zero_le _⟩
  ·split
   ·exact F6 _
   ·exact⟨Nat.zero_le _,Nat.zero_le _⟩
def entLines (p:HO) (b:FS):List bM:=(parseModule (p.bi.getD (findMod p.bi b).toNat default).body b.host).2.1
def NA (p:HO) (b:FS):szL Ea (entLines p b)<=366/\(entLines p b).length<=6:=Od _ _ _
def entRun (p q:HO) (b:FS):aj×ByteArray×List ByteArray:=runScript q.ba (sheetsOf p.bf) (entLines p b)
def enter1 (p q:HO) (b:FS):HO:=if inL q.ran b=true then q else{ q with ran:=q.ran++[b],ba:=(entRun p q b).1,log:=addLog q.log (entRun p q b).2.2 }
def enterAll (p q:HO) (l:List FS):HO:=l.foldl (enter1 p) q
def enter (p:HO) (a:FS):HO:=if graphFails p a=true then say p (⟨#[102,97,105,108,32]⟩++formatAddr a) else enterAll p p (reachOf p a)
def Vi {p q:HO} {l:List FS} {i:Nat} (h:i<l.length):enterAll p q (l.drop i)=enterAll p (enter1 p q (l.getD i default)) (l.drop (i+1)):=by rw[B_ h];rfl
def Ro {p q:HO} {l:List FS} {i:Nat} (h:l.length<=i):enterAll p q (l.drop i)=q:=by rw[bQ h];rfl
def X1 (l:List ByteArray):∀ g:List ByteArray,(addLog g l).length<=max g.length 40:=by
 induction l with
 | nil=>intro g;rw[Ij];omega
 | cons x l ih=>
  intro g;rw[addLog];grind
def okEnt (p:HO) (a:FS):Prop:=Al p<=1000000000000/\okVis p a [] []/\szAddr a<=1000000000000/\szBuilder p.ba<=20000000000/\szL AO p.bf<=40000000000/\okBod p
def entInv (p:HO) (a:FS) (q:HO) (i:Int):Prop:=0<=i/\i<=(reachOf p a).length/\enterAll p q ((reachOf p a).drop i.toNat)=enterAll p p (reachOf p a)/\q={ p with ran:=q.ran,ba:=q.ba,log:=q.log }/\bpot q.ba<=bpot p.ba/\q.ran.length<=p.ran.length+i.toNat/\q.log.length<=max p.log.length 40
def logInv (q1:HO) (g:List ByteArray) (q:HO) (k:Int):Prop:=0<=k/\k<=g.length/\q={ q1 with log:=q.log }/\addLog q.log (g.drop k.toNat)=addLog q1.log g
def AfW (q:HO) (g:List ByteArray):logInv q g q 0:=⟨o_,o_,rfl,rfl⟩
def Adf {q1 q:HO} {g:List ByteArray} {k:Int} (h:logInv q1 g q k) (hk:k<g.length):logInv q1 g (say q (g.getD k.toNat default)) (k+1):=by
 obtain⟨h1,h2,h3,h4⟩:=h;rw[Rn o_] at h4;refine⟨o_,o_,?_,?_⟩
 ·unfold say;grind
 ·rw[show(k+1).toNat=k.toNat+1 from o_];unfold say;split
  ·grind
  ·rename_i hc;rw[F_ hc] at h4;rw[Jl hc];exact h4
def Xj {q1 q:HO} {g:List ByteArray} {k:Int} (h:logInv q1 g q k) (hk:¬ k<g.length):q={ q1 with log:=addLog q1.log g }:=by
 obtain⟨h1,h2,h3,h4⟩:=h;rw[Ou o_] at h4;rw[<-h4];exact h3
def SH {p:HO} {x:FS} (h:(imports p x).2=true):0<=findMod p.bi x:=by
 unfold imports at h;grind
def O9 {p:HO} {a x:FS} (h:graphFails p a=false) (hx:x∈reachOf p a):0<=findMod p.bi x:=by
 unfold graphFails at h;rw[List.any_eq_false] at h;have:=h x hx;refine SH ?_;simp_all
def AeH (p:HO) (a:FS):entInv p a p 0:=⟨o_,o_,rfl,rfl,Y_ _,Y_ _,Nat.le_max_left _ _⟩
def MN {p q:HO} {a:FS} {i:Int} (h:entInv p a q i):q.bi=p.bi/\q.bf=p.bf:=by
 have e:=h.2.2.2.1;grind
def Acn {p q:HO} {a:FS} {i:Int} (h:entInv p a q i) (hp:okEnt p a):q.ran.length<=1200000000000/\szBuilder q.ba<=30000000000/\szL Eh (sheetsOf p.bf)<=80000000000/\okSheets (sheetsOf p.bf)/\szL AO p.bf<=40000000000/\(reachOf p a).length<=100000000001/\p.bi.length<=1000000000000:=by
 obtain⟨h1,h2,h3,h4,h5,h6,h7⟩:=h;obtain⟨p1,⟨q1,q2,q3,q4,q5⟩,p3,p4,p5,p6⟩:=hp;have hl:=Ns (a:=a) q4;have hs:=FJ p.bf;have hpp:=HE p;have hr:=Ad szAddr p.ran;have hm:=Ad Ar p.bi;have hb:szBuilder q.ba<=bpot q.ba:=cO _ _;have hb2:bpot p.ba<=szBuilder p.ba+400:=by unfold bpot;omega
 grind
def R5 {p q:HO} {a:FS} {i:Int} (h:entInv p a q i) (hi:i<(reachOf p a).length):entInv p a (enter1 p q ((reachOf p a).getD i.toNat default)) (i+1):=by
 obtain⟨h1,h2,h3,h4,h5,h6,h7⟩:=h;rw[Vi o_] at h3;refine⟨o_,o_,by rw[show(i+1).toNat=i.toNat+1 from o_];exact h3,?_,?_,?_,?_⟩
 ·unfold enter1;grind
 ·unfold enter1;split
  ·exact h5
  ·exact aR (Q8 _ _ _) h5
 ·unfold enter1;grind
 ·unfold enter1;split
  ·exact h7
  ·have:=X1 (entRun p q ((reachOf p a).getD i.toNat default)).2.2 q.log;grind
def Ya (p q:HO) (b:FS):runScript q.ba (sheetsOf p.bf) (parseModule (p.bi.getD (findMod p.bi b).toNat default).body b.host).2.1=entRun p q b:=rfl
def YE (a:FS):(formatAddr a).size<=szAddr a+1:=by
 unfold formatAddr;split
 ·rw[aN,aN];simp only[szAddr,show ByteArray.size ⟨#[47]⟩=1 from rfl];omega
 ·exact Nat.zero_le _
abbrev W4:Fct:=⟨[.v (.el .page),.v (.el .addr)],[.el .page],λ(x:bv)=>okEnt x.1 x.2.1,λ(x:bv)=>(enter x.1 x.2.1,())⟩
abbrev Dy (p:HO) (a:FS):LInv:=⟨[⟨.b,5,true,.el .page⟩,⟨.s,7,true,.el .int⟩,⟨.b,4,true,.el .page⟩,⟨.s,6,true,.sl .addr⟩],λ(z x:bY)=>((entInv p a x.1 x.2.1)/\x.2.2.1=z.2.2.1)/\x.2.2.2.1=z.2.2.2.1,λ(x:bY)=>(reachOf p a).length-x.2.1.toNat⟩
abbrev C4 (p:HO) (a:FS):LInv:=⟨[⟨.b,5,true,.el .page⟩,⟨.s,14,true,.el .int⟩,⟨.s,13,true,.sl .str⟩,⟨.s,6,true,.sl .addr⟩,⟨.b,4,true,.el .page⟩],λ(z x:dP)=>(x.2.2.1=z.2.2.1/\x.2.2.2.1=z.2.2.2.1/\logInv z.1 z.2.2.1 x.1 x.2.1)/\x.2.2.2.2.1=z.2.2.2.2.1,λ(x:dP)=>x.2.2.1.length-x.2.1.toNat⟩
def Amx:=Ant.a W4<|Fct.p (KP [2,3,4,5,6,7,9,11,13,14] [19,31,40,86]) (λ⟨p,a,_⟩=>λ|6=>some (Dy p a)|14=>some (C4 p a)|_=>none) Ant.2 func112 (by
 rintro⟨(p:HO),(a:FS),_⟩ hp;refine ho (let H_:=(⟨#[102,97,105,108,32]⟩:ByteArray);.cl AW (p,()) λz2=>.cl GP (p,a,()) λz3=>.br (z3.1) (.cl Hi (a,()) λz4=>.ob (sameSize H_ z4.1)<|.ob (AdO.pre (z2.1,H_++z4.1,()))<|.lt _ (AdO.fn (z2.1,H_++z4.1,())) λz5=>.lf W4 (z5.1.1,())) (.cl JV (p,a,()) λz6=>lpx (Dy p a) (z2.1,((0:Int),(default,(z6.1,())))) λ(y7:bY) bk7=>let J_:=({y7.1 with ran:=y7.1.ran++[y7.2.2.2.1.getD y7.2.1.toNat default]}:HO);.br (decide (y7.2.1<(y7.2.2.2.1.length:Int))) (.ix y7.2.1 y7.2.2.2.1.length<|.cl DC (y7.1.ran,y7.2.2.2.1.getD y7.2.1.toNat default,()) λz7=>.br (z7.1) (.bk (bk7 (y7.1,(w1 y7.2.1,(y7.2.2.1,(y7.2.2.2.1,())))))) (.ix y7.2.1 y7.2.2.2.1.length<|.ap (y7.1.ran.length+[y7.2.2.2.1.getD y7.2.1.toNat default].length) 32<|.ix y7.2.1 y7.2.2.2.1.length<|.cl LA (J_,y7.2.2.2.1.getD y7.2.1.toNat default,()) λ(z8:E_)=>.ix z8.1 y7.1.bi.length<|.ix y7.2.1 y7.2.2.2.1.length<|.cl EF ((y7.1.bi.getD z8.1.toNat default).body,(y7.2.2.2.1.getD y7.2.1.toNat default).host,()) λz9=>.cl JQ (J_,()) λz10=>.cl Ib (y7.1.ba,z10.1,z9.2.1,()) λz11=>lpx (C4 p a) (({y7.1 with ba:=z11.1,ran:=y7.1.ran++[y7.2.2.2.1.getD y7.2.1.toNat default]}:HO),((0:Int),(z11.2.2.1,(y7.2.2.2.1,(y7.2.2.1,()))))) λ(y27:dP) bk27=>.br (decide (y27.2.1<(y27.2.2.1.length:Int))) (.ix y27.2.1 y27.2.2.1.length<|.ob (AdO.pre (y27.1,y27.2.2.1.getD y27.2.1.toNat default,()))<|.lt _ (AdO.fn (y27.1,y27.2.2.1.getD y27.2.1.toNat default,())) λz12=>.re (Value.int IntKind.i64 y7.2.1)<|.bk (bk27 (z12.1.1,(w1 y27.2.1,(y27.2.2.1,(y27.2.2.2.1,(y27.2.2.2.2.1,()))))))) (.bk (bk7 (y27.1,(w1 y7.2.1,(y27.2.2.2.2.1,(y27.2.2.2.1,())))))))) (.lf W4 (y7.1,())))) ?_;refine Aj ?_ λ_=>(Aj ?_ λ_=>Aa (λh3=>Aj ?_ λ_=>Ac ?_ λ_=>Ac trivial λ_=>K6 (lfY ?_)) λh3=>Aj ?_ λ_=>Aq ?_ λ(y7:bY) i7=>Aa (λh8=>CW ?_ λo9 o10=>Aj ?_ λ_=>Aa (λh12=>AR ?_) λh12=>CW ?_ λo14 o15=>EG ?_ λ_=>CW ?_ λo17 o18=>Aj ?_ λ_=>CW ?_ λo20 o21=>CW ?_ λo22 o23=>Aj ?_ λ_=>Aj ?_ λ_=>Aj ?_ λ_=>Aq ?_ λ(y27:dP) i27=>Aa (λh28=>CW ?_ λo29 o30=>Ac trivial λ_=>K6 (An<|AR ?_)) λh28=>AR ?_) λh8=>lfY ?_)<;>have hq:okEnt p a:=hp<;>obtain⟨p1,p2,p3,p4,p5,p6⟩:=(show okEnt p a from hp)<;>(have hfa:=YE a;try simp only[AA] at *)<;>(try simp only[std,Nat.reduceAdd,Sr,Z4] at *)<;>(first|trivial|omega|exact p2|(unfold sameSize;rw[show ByteArray.size ⟨#[102,97,105,108,32]⟩=5 from rfl];omega)|exact AeH p a|(unfold enter;rw[G_ ‹_›])|skip)<;>(obtain⟨⟨i1,e1⟩,e2⟩:=i7;have em:=(MN i1).1;have es:=(MN i1).2;have i0:=i1.1;have iz:=Acn i1 hq)<;>(try simp only[e2,em,es,Ya] at *)<;>(first|trivial|omega|skip)<;>(try have hmem:=Ae (l:=reachOf p a) (i:=y7.2.1.toNat) o_;have hfnd:=O9 ‹_› hmem;have hfi:=Bu p.bi ((reachOf p a).getD y7.2.1.toNat default))<;>(first|exact⟨hfnd,hfi.1⟩|exact⟨o_,p6⟩|exact⟨p2.2.1 _ o_,Ok hmem p2.2.2.1⟩|exact⟨o_,o_,aR (NA p _).1 (by decide),iz.2.2.2.1⟩|exact AfW _ _|(rw[Aw o_];have e:=R5 i1 o_;unfold enter1 at e;rw[G_ ‹_›] at e;exact⟨⟨⟨e,e1⟩,trivial⟩,o_⟩)|(unfold enter;rw[F_ (by intro q;exact tf q ‹_›)];have e:=i1.2.2.1;rw[Ro o_] at e;exact e)|skip)<;>(obtain⟨⟨j1,j2,j3⟩,j4⟩:=i27;simp only[j1,j2,j4] at *;have j0:=j3.1;have hgl:=aR (Qm y7.1.ba (sheetsOf p.bf) (entLines p ((reachOf p a).getD y7.2.1.toNat default))) (NA p _).2;rw[show runScript y7.1.ba (sheetsOf p.bf) (entLines p ((reachOf p a).getD y7.2.1.toNat default))=entRun p y7.1 ((reachOf p a).getD y7.2.1.toNat default) from rfl] at hgl)<;>(first|exact⟨j0,‹_›⟩|(rw[Aw o_];simp only[and_true,true_and];exact⟨Adf j3 ‹_›,o_⟩)|skip)<;>(have e:=Xj j3 o_;have em2:=MN i1;have e5:y27.1=enter1 p y7.1 ((reachOf p a).getD y7.2.1.toNat default):=by rw[e];unfold enter1;rw[F_ (by intro q;exact tf q ‹_›)];simp only[em2.1,em2.2])<;>rw[Aw o_,e5]<;>exact⟨⟨⟨R5 i1 o_,by first|trivial|assumption⟩,by first|trivial|assumption⟩,o_⟩)
def Agx (g:X_->Bool):∀ l:List X_,wtL g l<=szL Ar l
 | []=>Y_ _
 | m::l=>by have:=Agx g l;rw[wtL,Ah];split<;>simp only[Ar]<;>omega
def Aoe (p:HO):totV p []<=szL Ar p.bi:=by
 unfold totV;rw[Ru,aU,cE];exact Agx _ _
def okTail (p:HO):Prop:=okParse p/\okMb p/\szL Ar p.bi<=50000000000/\∀ i,i<p.bh.length->(p.bh.getD i default).host.size<=4000000000
def XY {p:HO} (h:okTail p) {i:Nat} (hi:i<p.bh.length):okEnt p (p.bh.getD i default):=by
 obtain⟨⟨⟨h1,h1a,h1b,h1c,h1e⟩,h1d,h1f⟩,h2,h2a,h3⟩:=h;have hpp:=HE p;have ht:=Aoe p;have hm:=Ad Ar p.bi;have ha:=Ct szAddr hi;exact⟨h1,⟨o_,h2,h3 i hi,o_,Y_ _⟩,o_,by unfold szBuilder;omega,h1d,h1f⟩
def defSlot (p:HO):aw:=p.bf.getD ((deferredSlots p).getD p.bo.toNat default).toNat default
def entNow (p:HO):FS:=p.bh.getD p.bu.toNat default
def tailDefer (p:HO):HO×Bool :=
 if(defSlot p).done=false\/stylesReady p.bf=false then(p,false)
 else if(defSlot p).code=1 then({ runCode p (defSlot p).body false with bo:=p.bo+1 },true)
 else({ p with bo:=p.bo+1 },true)
def tailEnter (p:HO):HO×Bool :=
 if graphReady p (entNow p)=false\/stylesReady p.bf=false then(p,false)
 else({ enter p (entNow p) with bu:=p.bu+1 },true)
def stepTail (p:HO):HO×Bool :=
 if isParsed p=false\/p.loaded=true\/p.bo<0\/p.bu<0 then(p,false)
 else if p.bo<(deferredSlots p).length then tailDefer p
 else if p.bu<p.bh.length then tailEnter p
 else if 0<(openSlots p).length\/0<(openMods p).length then(p,false)
 else({ say p ⟨#[108,111,97,100]⟩ with loaded:=true },true)
def Ot (p:HO) (h:0<=p.bo) (h2:p.bo<(deferredSlots p).length):0<=(deferredSlots p).getD p.bo.toNat default/\(deferredSlots p).getD p.bo.toNat default<p.bf.length:=by
 have hm:=Ae (l:=deferredSlots p) (i:=p.bo.toNat) o_;have:=Dm (λs:aw=>decide (s.mode=4)) p.bf 0 _ hm;omega
def UV (p:HO):p.bf.getD ((deferredSlots p).getD p.bo.toNat default).toNat default=defSlot p:=rfl
def XI (p:HO):p.bh.getD p.bu.toNat default=entNow p:=rfl
abbrev FI:Fct:=⟨[.v (.el .page)],[.el .page,.el .bool],λ(x:ai)=>okTail x.1,λ(x:ai)=>((stepTail x.1).1,(stepTail x.1).2,())⟩
def AmK:=Amx.a FI<|Fct.o (KP [1,2,3,4,5,6,7] [26,34,51,59,78,93,112]) Amx.2 func65 (by
 rintro⟨(p:HO),_⟩ hp;refine ho (let R_:=(⟨#[108,111,97,100]⟩:ByteArray);.cl AW (p,()) λz2=>let H_:Out:=.lf FI (z2.1,false,());.cl Gt (p,()) λz3=>.br (!z3.1) H_ (.br (p.loaded) H_ (.br (decide (p.bo<0)) H_ (.br (decide (p.bu<0)) H_ (.cl F3 (p,()) λ(z4:am)=>let M_:=p.bf.getD (z4.1.getD p.bo.toNat default).toNat default;let J_:=0<=z4.1.getD p.bo.toNat default/\z4.1.getD p.bo.toNat default<(p.bf.length:Int);.br (decide (p.bo<(z4.1.length:Int))) (.ix p.bo z4.1.length<|.ob J_<|.br (!M_.done) H_ (.cl CK (p,()) λz5=>.br (!z5.1) H_ (.ob J_<|.br (M_.code==1) (.ob J_<|.cl FQ (p,M_.body,false,()) λz6=>.lf FI ({z6.1 with bo:=w1 p.bo},true,())) (.lf FI ({z2.1 with bo:=w1 p.bo},true,()))))) (.br (decide (p.bu<(p.bh.length:Int))) (.ob (inB p.bu p.bh.length)<|.cl Fj (p,p.bh.getD p.bu.toNat default,()) λz7=>.br (!z7.1) H_ (.cl CK (p,()) λz8=>.br (!z8.1) H_ (.cl W4 (p,p.bh.getD p.bu.toNat default,()) λz9=>.lf FI ({z9.1 with bu:=w1 p.bu},true,())))) (.cl Ih (p,()) λ(z10:am)=>.br (decide ((z10.1.length:Int)>0)) H_ (.cl JT (p,()) λ(z11:am)=>.br (decide ((z11.1.length:Int)>0)) H_ (.ob (AdO.pre (z2.1,R_,()))<|.lt _ (AdO.fn (z2.1,R_,())) λz12=>.lf FI ({z12.1.1 with loaded:=true},true,())))))))))) ?_;refine Aj ?_ λ_=>(Aj trivial λ_=>Aa (λh2=>lfY ?_) λh2=>Aa (λh3=>lfY ?_) λh3=>Aa (λh4=>lfY ?_) λh4=>Aa (λh5=>lfY ?_) λh5=>Aj ?_ λ_=>Aa (λh7=>CW ?_ λo8 o9=>Ac ?_ λ_=>Aa (λh11=>lfY ?_) λh11=>Aj ?_ λ_=>Aa (λh13=>lfY ?_) λh13=>Ac ?_ λ_=>Aa (λh15=>Ac ?_ λ_=>Aj ?_ λ_=>lfY ?_) λh15=>lfY ?_) λh7=>Aa (λh18=>Ac ?_ λ_=>Aj ?_ λ_=>Aa (λh21=>lfY ?_) λh21=>Aj ?_ λ_=>Aa (λh23=>lfY ?_) λh23=>Aj ?_ λ_=>lfY ?_) λh18=>Aj ?_ λ_=>Aa (λh26=>lfY ?_) λh26=>Aj ?_ λ_=>Aa (λh28=>lfY ?_) λh28=>Ac trivial λ_=>K6 (lfY ?_))<;>have hq:okTail p:=hp<;>obtain⟨⟨⟨hp1,hp2,hp3,hp4,hp9⟩,hp8,hp5⟩,hp6,hp10,hp7⟩:=(show okTail p from hp)<;>(have hbb:szBuilder p.ba<=2000000000:=by(unfold szBuilder;omega))<;>(have hpp:=HE p;have hsl:=Ad AO p.bf;have hml:=Ad Ar p.bi;have hel:=Ad szAddr p.bh;have hdl:(deferredSlots p).length<=p.bf.length:=Dh _ _ _;try simp only[AA] at *)<;>(try simp only[std,Nat.reduceAdd,UV,XI] at *)<;>(first|trivial|omega|skip)<;>have hds:0<=p.bo->p.bo<(deferredSlots p).length->(defSlot p).body.size<=4200000000:=λa b=>hp5 _ (by have:=Ot p a b;omega)<;>have hes:0<=p.bu->p.bu<p.bh.length->okEnt p (entNow p):=λa b=>XY hq o_<;>(first|exact Ot p ‹_› ‹_›|exact⟨hp1,o_,o_,hds ‹_› ‹_›,hp5⟩|exact hes ‹_› ‹_›|exact(hes ‹_› ‹_›).2.1|skip)<;>unfold stepTail<;>(repeat first|rw[G_ (by first|assumption|omega|exact .inl ‹_›|exact .inr ‹_›|exact .inr (.inl ‹_›)|exact .inr (.inr (.inl o_))|exact .inr (.inr (.inr o_))|exact .inl o_|exact .inr o_)]|rw[F_ (by first|omega|(rintro(q|q|q|q)<;>first|omega|exact tf ‹_› q|exact tf q ‹_›)|(rintro(q|q)<;>first|omega|exact tf ‹_› q))]|unfold tailDefer|unfold tailEnter)<;>(first|exact⟨rfl,rfl⟩|(rw[Aw o_];exact⟨rfl,rfl⟩)))
def undS:List aw->Nat
 | []=>0
 | s::l=>(if s.done=true then 0 else 1)+undS l
def undM:List X_->Nat
 | []=>0
 | m::l=>(if m.done=true then 0 else 1)+undM l
def nrL (r:List FS):List X_->Nat
 | []=>0
 | m::l=>(if inL r m.to=true then 0 else szAddr m.to+1)+nrL r l
def LV:∀ l k:List aw,undS (l++k)=undS l+undS k
 | [],k=>(cE _).symm
 | s::l,k=>by rw[cj,undS,undS,LV l k];omega
def LZ:∀ l k:List X_,undM (l++k)=undM l+undM k
 | [],k=>(cE _).symm
 | s::l,k=>by rw[cj,undM,undM,LZ l k];omega
def Qk (r:List FS):∀ l k:List X_,nrL r (l++k)=nrL r l+nrL r k
 | [],k=>(cE _).symm
 | s::l,k=>by rw[cj,nrL,nrL,Qk r l k];omega
def WI (r:List FS) (b:FS):∀ l:List X_,nrL (r++[b]) l<=nrL r l
 | []=>Y_ _
 | m::l=>by
  have:=WI r b l;rw[nrL,nrL,Ji];cases inL r m.to with
  | true=>rw[Bool.true_or,G_ rfl];omega
  | false=>
   rw[Bool.false_or,F_ (show ¬ false=true by decide)];split<;>omega
def VN (r:List FS) (b:FS) (hb:inL r b=false):∀ (l:List X_) (i:Nat),i<l.length->(l.getD i default).to=b->nrL (r++[b]) l+szAddr b+1<=nrL r l
 | [],i,h,_=>absurd h (Nat.not_lt_zero _)
 | m::l,0,_,he=>by
  have he:m.to=b:=he;have:=WI r b l;rw[nrL,nrL,he,Ji,hb,Ti,bR rfl,Bool.false_or,G_ rfl,F_ (by decide)];omega
 | m::l,i+1,h,he=>by
  have ih:=VN r b hb l i (by simpa using h) he;rw[nrL,nrL,Ji];cases inL r m.to with
  | true=>rw[Bool.true_or,G_ rfl];omega
  | false=>
   rw[Bool.false_or,F_ (show ¬ false=true by decide)];split<;>omega
def nodeP (b:aj):Nat:=szL AF b.bj+4000010*(40-b.bj.length)
def openP (b:aj):Nat:=b.bn.length+(40-b.bj.length)
def slotP (l:List aw):Nat:=szL AO l+400*undS l+500000800*(20-l.length)
def entP (l:List FS):Nat:=szL szAddr l+100*(20-l.length)
def modP (l:List X_) (n:Nat):Nat:=szL Ar l+500*undM l+600*(20-n)
def logP (l:List ByteArray):Nat:=szL Ag l+200*(40-l.length)
def ranP (l:List X_) (r:List FS) (n:Nat):Nat:=szL szAddr r+nrL r l+100*(20-n)
def okQ (q:List af) (Q:Nat):Prop:=(∀ t,t∈q->szToken t<=4000000)/\szL szToken q<=Q
def okB (b:aj):Prop:=nodeP b<=200000000/\openP b<=3000000
def okS (l:List aw):Prop:=slotP l<=13000000000/\∀ s,s∈l->s.body.size<=2000000
def okE (l:List X_) (e r:List FS) (M R:Nat):Prop:=entP e<=3000000/\modP l e.length<=M/\ranP l r e.length<=R/\∀ m,m∈l->m.body.size<=2000000
def okLg (g:List ByteArray):Prop:=logP g<=3000000
def okCm (p:HO):Prop:=AD p.bm+szAddr p.addr<=4000000/\p.tok.rest.size<=4000000
def okAll (p:HO) (Q M R:Nat):Prop:=okQ p.bp Q/\okB p.ba/\okS p.bf/\okE p.bi p.bh p.ran M R/\okLg p.log/\okCm p
def Ps {q:List af} {Q Q':Nat} (h:okQ q Q) (hq:Q<=Q'):okQ q Q':=⟨h.1,aR h.2 hq⟩
def En {p:HO} {Q Q' M R:Nat} (h:okAll p Q M R) (hq:Q<=Q'):okAll p Q' M R:=⟨Ps h.1 hq,h.2⟩
def AhB {b:aj} {t:af} (h:okB b) (ht:szToken t<=4000000):okB (addToken b t).1:=by
 obtain⟨h1,h2⟩:=h;unfold addToken;split
 ·have:=Ks b t.name _ (Y_ _);refine⟨h1,?_⟩;unfold openP at *
  show(closeN b t.name b.bn.length).length+(40-b.bj.length)<=_;omega
 ·split
  ·rename_i hc;have hc:=hc.1;have h0:szL AF []=0:=rfl;have h3:szL BH []=0:=rfl;have h4:ByteArray.size ⟨#[]⟩=0:=rfl;split
   ·refine⟨?_,?_⟩
    ·unfold nodeP at *
     dsimp only;rw[B0,Ah,h0,ak,dY];simp only[AF,szToken,h4] at *;omega
    ·unfold openP at *
     dsimp only;rw[ak,dY];split
     ·omega
     ·rw[ak,dY];omega
   ·refine⟨?_,?_⟩
    ·unfold nodeP at *
     dsimp only;rw[B0,Ah,h0,ak,dY];simp only[AF,szToken,h4,h3] at *;omega
    ·unfold openP at *
     dsimp only;rw[ak,dY];omega
  ·exact⟨h1,h2⟩
def V5 {b:aj} (l:List bA) (x:bM) (h:okB b):okB (runLine b l x).1:=by
 unfold runLine;split
 ·exact h
 ·split
  ·dsimp only;split
   ·rename_i hc;obtain⟨c1,c2,c3⟩:=hc;obtain⟨h1,h2⟩:=h;have:=AX c3;have h0:szL AF []=0:=rfl;have h3:szL BH []=0:=rfl;have h4:ByteArray.size ⟨#[]⟩=0:=rfl;refine⟨?_,?_⟩
    ·unfold nodeP at *
     dsimp only;rw[B0,Ah,h0,ak,dY];simp only[AF,h4,h3] at *;omega
    ·unfold openP at *
     dsimp only;rw[ak,dY];omega
   ·exact h
  ·split
   ·exact h
   ·split
    ·exact h
    ·split<;>exact h
def MH (l:List bA):∀ (r:List bM) (b:aj) (w:ByteArray) (g:List ByteArray),okB b->okB (runLines l r b w g).1
 | [],b,w,g,h=>h
 | x::r,b,w,g,h=>by rw[runLines];exact MH l r _ _ _ (V5 l x h)
def Aer {b:aj} {l:List bA} {x:bM} (hl:okSheets l) (hb:b.bj.length<=9000000000000000000) (hx:x.text.size<=60):(runLine b l x).2.2.size<=199:=by
 have h0:ByteArray.size ⟨#[]⟩=0:=rfl;have hc:=Lo x.text b.bj;have hk:=OC hl x.text;have f1:=MV (n:=countName x.text b.bj) o_ o_;have f2:=MV (n:=colorOf l x.text) hk.1 hk.2;have s1:ByteArray.size ⟨#[99,111,117,110,116,32]⟩=6:=rfl;have s2:ByteArray.size ⟨#[32]⟩=1:=rfl;have s3:ByteArray.size ⟨#[108,111,111,107,32]⟩=5:=rfl;have s4:ByteArray.size ⟨#[115,97,121,32]⟩=4:=rfl;unfold runLine;split
 ·dsimp only;omega
 ·split
  ·dsimp only;omega
  ·split
   ·dsimp only;rw[aN,aN,aN];omega
   ·split
    ·dsimp only;rw[aN,aN,aN];omega
    ·split
     ·dsimp only;rw[aN];omega
     ·dsimp only;omega
def NJ (l:List bA) (hl:okSheets l):∀ (r:List bM) (b:aj) (w:ByteArray) (g:List ByteArray),okB b->(∀ x,x∈r->x.text.size<=60)->(∀ s,s∈g->s.size<=199)->∀ s,s∈(runLines l r b w g).2.2->s.size<=199
 | [],b,w,g,_,_,hg=>hg
 | x::r,b,w,g,hb,hr,hg=>by
  rw[runLines];have hn:b.bj.length<=9000000000000000000:=by have:=Ad AF b.bj;have h1:=hb.1;unfold nodeP at h1;omega
  have hx:=Aer hl hn (hr x cW);refine NJ l hl r _ _ _ (V5 l x hb) (λy hy=>hr y (cT _ hy)) λs hs=>?_
  split at hs
  ·exact hg s hs
  ·rcases ae.1 hs with hs|hs
   ·exact hg s hs
   ·rw[List.mem_singleton] at hs;rw[hs];exact hx
def ND:∀ (l g:List ByteArray),(∀ s,s∈l->s.size<=199)->okLg g->okLg (addLog g l)
 | [],g,_,h=>by rw[Ij];exact h
 | x::l,g,hl,h=>by
  rw[addLog];split
  ·refine ND l _ (λs hs=>hl s (cT _ hs)) ?_;have:=hl x cW;have h0:szL Ag []=0:=rfl;unfold okLg logP at *
   rw[B0,Ah,h0,ak,dY];simp only[Ag] at *;omega
  ·exact h
def Ads {p:HO} {Q M R:Nat} (h:okAll p Q M R) {s:ByteArray} (hs:s.size<=199):okAll (say p s) Q M R:=by
 obtain⟨h1,h2,h3,h4,h5,h6⟩:=h;have e:=ND [s] p.log (λx hx=>by rw[List.mem_singleton] at hx;rw[hx];exact hs) h5;unfold say;split
 ·rename_i hc;rw[addLog,G_ hc,Ij] at e;exact⟨h1,h2,h3,h4,e,h6⟩
 ·exact⟨h1,h2,h3,h4,h5,h6⟩
def Ov (s:ByteArray):∀ x,x∈(parseScript s).1->x.text.size<=60:=by
 intro x hx;unfold parseScript at hx;split at hx
 ·cases hx
 ·split at hx
  ·rename_i hc;obtain⟨w,hw,rfl⟩:=bG.1 hx;have:=hc.2;rw[allOk8,aH] at this;exact Nq w _ _ (this w hw)
  ·cases hx
def Abn {p:HO} {Q M R:Nat} (h:okAll p Q M R) (c:ByteArray) (w:Bool):okAll (runCode p c w) (Q+370) M R:=by
 obtain⟨h1,h2,h3,h4,h5,h6⟩:=h;unfold runCode;split
 ·refine⟨?_,MH _ _ _ _ _ h2,h3,h4,ND _ _ (NJ _ (FJ _).2 _ _ _ _ h2 (Ov c) λs hs=>by cases hs) h5,h6⟩;dsimp only;split
  ·have ht:=Je (rsOf p c).2.1;have hr:=(Aae p c).2.1;refine⟨λt ht2=>?_,?_⟩
   ·rcases ae.1 ht2 with q|q
    ·have hg:=HZ szToken q;omega
    ·exact h1.1 t q
   ·rw[B0];have:=h1.2;omega
  ·exact Ps h1 o_
 ·exact⟨Ps h1 o_,h2,h3,h4,ND _ _ (λs hs=>by rw[List.mem_singleton] at hs;rw[hs];decide) h5,h6⟩
def EY (s b:ByteArray):szAddr (parseAddr s b).1<=16:=by
 unfold parseAddr;split
 ·rename_i h;rw[S_] at h;have h1:=AX h.1;have h2:=AX h.2;simp only[szAddr];omega
 ·decide
def YG (p:HO) (m:Int) (to d:ByteArray) (n:Int):AO (newSlot p m to d n)<=16+d.size/\(newSlot p m to d n).body.size=0:=by
 have h:=EY to p.addr.host;have h4:ByteArray.size ⟨#[]⟩=0:=rfl;unfold newSlot;split
 ·exact⟨by simp only[rawSlot,AO,h4];omega,h4⟩
 ·exact⟨by simp only[AO,h4];omega,h4⟩
def Pg {p:HO} {Q M R:Nat} (h:okAll p Q M R) (m:Int) (to d:ByteArray) (n:Int) (hd:d.size<=200000000):okAll (addSlot p m to d n).1 Q M R:=by
 obtain⟨h1,h2,h3,h4,h5,h6⟩:=h;unfold addSlot;split
 ·rename_i hc;have hn:=YG p m to d n;refine⟨h1,h2,⟨?_,λs hs=>?_⟩,h4,h5,h6⟩
  ·have h0:szL AO []=0:=rfl;have hu:undS [newSlot p m to d n]<=1:=by rw[undS,undS];split<;>omega
   have h7:=h3.1;unfold slotP at *
   dsimp only;rw[B0,Ah,h0,LV,ak,dY];omega
  ·rcases ae.1 hs with hs|hs
   ·exact h3.2 s hs
   ·rw[List.mem_singleton] at hs;rw[hs,hn.2];decide
 ·exact⟨h1,h2,h3,h4,h5,h6⟩
def AcZ (p:HO) (a:FS):(newMod p a).to=a/\(newMod p a).body.size=0:=by
 unfold newMod;split<;>exact⟨rfl,rfl⟩
def AbA {α:Type} (f:α->Nat) (l:List α) (i:Nat):szL f (l.take i)+szL f (l.drop i)=szL f l:=by
 rw[<-B0,di]
def AcG (l:List X_) (i:Nat):undM (l.take i)+undM (l.drop i)=undM l:=by rw[<-LZ,di]
def Agm (r:List FS) (l:List X_) (i:Nat):nrL r (l.take i)+nrL r (l.drop i)=nrL r l:=by rw[<-Qk,di]
def Agt (p:HO) (a:FS):szL Ar (askModule p a).bi<=szL Ar p.bi+szAddr a+1/\undM (askModule p a).bi<=undM p.bi+1/\nrL p.ran (askModule p a).bi<=nrL p.ran p.bi+szAddr a+1/\(∀ m,m∈(askModule p a).bi->m∈p.bi\/m.body.size=0)/\askModule p a={ p with bi:=(askModule p a).bi }:=by
 unfold askModule;split
 ·exact⟨o_,o_,o_,λm h=>.inl h,rfl⟩
 ·obtain⟨n1,n2⟩:=AcZ p a;have e1:=AbA Ar p.bi (askFrom a p.bi);have e2:=AcG p.bi (askFrom a p.bi);have e3:=Agm p.ran p.bi (askFrom a p.bi);refine⟨?_,?_,?_,λm h=>?_,rfl⟩
  ·dsimp only;rw[B0,Ah];simp only[Ar,n1,n2] at *;omega
  ·dsimp only;rw[LZ,undM];split<;>omega
  ·dsimp only;rw[Qk,nrL,n1];split<;>omega
  ·rcases ae.1 h with h|h
   ·exact .inl (fH h)
   ·rcases ah.1 h with h|h
    ·rw[h];exact .inr n2
    ·exact .inl (fC h)
def AeT {p:HO} {Q M R:Nat} (h:okAll p Q M R) (to:ByteArray):okAll (addEntry p to) Q M R:=by
 unfold addEntry;split
 ·rename_i hc;obtain⟨h1,h2,h3,⟨h4,h7,h8,h9⟩,h5,h6⟩:=h;obtain⟨a1,a2,a3,a4,a5⟩:=Agt p (parseAddr to p.addr.host).1;have ha:=EY to p.addr.host;have h0:szL szAddr []=0:=rfl;rw[a5];refine⟨h1,h2,h3,⟨?_,?_,?_,λm hm=>?_⟩,h5,h6⟩
  ·unfold entP at *
   rw[B0,Ah,h0,ak,dY];omega
  ·unfold modP at *
   dsimp only;rw[ak,dY];omega
  ·unfold ranP at *
   dsimp only;rw[ak,dY];omega
  ·rcases a4 m hm with hm|hm
   ·exact h9 m hm
   ·omega
 ·exact h
def Xe {p:HO} {Q M R:Nat} (h:okAll p Q M R) (t:af) (n:Int) (ht:szToken t<=4000000):okAll (element p t n) Q M R:=by
 have hd:=Bk t.bq ⟨#[100,105,103,101,115,116]⟩;have hs:szL BH t.bq<=szToken t:=by simp only[szToken];omega
 unfold element;split
 ·exact Pg h _ _ _ _ o_
 ·split
  ·exact Pg h _ _ _ _ o_
  ·exact h
def AdM {p:HO} {Q M R:Nat} (h:okAll p Q M R) (n:Int):okAll (script p n) Q M R:=by
 have hd:=Bk (p.ba.bj.getD n.toNat default).bq ⟨#[100,105,103,101,115,116]⟩;have hs:szL BH (p.ba.bj.getD n.toNat default).bq<=200000000:=by
  by_cases hn:n.toNat<p.ba.bj.length
  ·have:=OL p.ba.bj n.toNat hn;have h2:=h.2.1.1;unfold nodeP at h2;omega
  ·rw[aV,List.getElem?_eq_none o_];exact Nat.zero_le _
 unfold script;split
 ·split
  ·exact h
  ·exact h
 ·split
  ·exact Pg h _ _ _ _ o_
  ·split
   ·exact AeT h _
   ·exact Pg h _ _ _ _ o_
def Af0 {p:HO} {Q M R:Nat} (h:okAll p Q M R) (hq:0<p.bp.length):okAll (taken p (p.bp.getD 0 default)) Q M R:=by
 obtain⟨h1,h2,h3,h4,h5,h6⟩:=h;have ht:=h1.1 _ (Ae hq);have hz:=(Wq p hq).2;exact⟨⟨λt hm=>h1.1 t (fC hm),by have:=h1.2;show szL szToken (p.bp.drop 1)<=Q;omega⟩,AhB h2 ht,h3,h4,h5,h6⟩
def AhA {p:HO} {Q M R:Nat} (h:okAll p Q M R):okAll (takeToken p).1 Q M R:=by
 unfold takeToken;split
 ·exact h
 ·rename_i hc;have hq:0<p.bp.length:=o_
  have ht:=h.1.1 _ (Ae hq);have hk:=Af0 h hq;unfold takeTok;split
  ·exact Xe hk _ _ ht
  ·split
   ·exact AdM hk _
   ·exact hk
def Aba {p:HO} {Q M R:Nat} (h:okAll p Q M R):okAll (stepParser p).1 (Q+370) M R:=by
 have hm:=En h (cO Q 370);unfold stepParser;split
 ·unfold stepInline;split
  ·exact Abn h _ _
  ·exact hm
 ·split
  ·unfold stepBlock;split
   ·exact hm
   ·split
    ·exact hm
    ·split
     ·exact Abn h _ _
     ·exact hm
  ·exact AhA hm
def Adc (b:ByteArray):∀ (l:List ByteArray) (acc:List FS),∀ x,x∈(pmGo b l acc).2.1->x.text.size<=60
 | [],acc,x,h=>by cases h
 | w::l,acc,x,h=>by
  rw[pmGo] at h;split at h
  ·split at h
   ·exact Adc b l _ x h
   ·cases h
  ·split at h
   ·exact Ov _ x h
   ·cases h
def Ab5 {p q:HO} {Q M R:Nat} (h:okAll q Q M R) (he:q.bi=p.bi) (b:FS) (hb:0<=findMod p.bi b):okAll (enter1 p q b) Q M R/\(enter1 p q b).bi=p.bi:=by
 unfold enter1;split
 ·exact⟨h,he⟩
 ·rename_i hn;have hn:inL q.ran b=false:=by simpa using hn
  obtain⟨h1,h2,h3,⟨h4,h7,h8,h9⟩,h5,h6⟩:=h;have hf:=Bu p.bi b;have hd:=VN q.ran b hn p.bi _ (show(findMod p.bi b).toNat<p.bi.length from o_) (Dg hb);have h0:szL szAddr []=0:=rfl;refine⟨⟨h1,MH _ _ _ _ _ h2,h3,⟨h4,h7,?_,h9⟩,ND _ _ (NJ _ (FJ _).2 _ _ _ _ h2 (Adc _ _ _) λs hs=>by cases hs) h5,h6⟩,he⟩;unfold ranP at *
  dsimp only;rw[he] at h8 ⊢;rw[B0,Ah,h0];omega
def Nb {p:HO} {Q M R:Nat}:∀ (l:List FS) (q:HO),okAll q Q M R->q.bi=p.bi->(∀ b,b∈l->0<=findMod p.bi b)->okAll (enterAll p q l) Q M R
 | [],q,h,_,_=>h
 | b::l,q,h,he,hb=>by obtain⟨i1,i2⟩:=Ab5 h he b (hb b cW);exact Nb l _ i1 i2 λx hx=>hb x (cT _ hx)
def T5 (a:FS):(formatAddr a).size<=17:=by
 unfold formatAddr;split
 ·rename_i h;rw[S_] at h;have h1:=AX h.1;have h2:=AX h.2;rw[aN,aN,show ByteArray.size ⟨#[47]⟩=1 from rfl];omega
 ·exact Nat.zero_le _
def Ad9 {p:HO} {Q M R:Nat} (h:okAll p Q M R) (a:FS):okAll (enter p a) Q M R:=by
 unfold enter;split
 ·refine Ads h ?_;have:=T5 a;rw[aN,show ByteArray.size ⟨#[102,97,105,108,32]⟩=5 from rfl];omega
 ·rename_i hf;exact Nb _ _ h rfl λb hb=>O9 (by simpa using hf) hb
def AiM {p:HO} {Q M R:Nat} (h:okAll p Q M R):okAll (stepTail p).1 (Q+370) M R:=by
 have hm:=En h (cO Q 370);unfold stepTail;split
 ·exact hm
 ·split
  ·unfold tailDefer;split
   ·exact hm
   ·split
    ·exact Abn h _ _
    ·exact hm
  ·split
   ·unfold tailEnter;split
    ·exact hm
    ·exact Ad9 hm _
   ·split
    ·exact hm
    ·exact Ads hm (by decide)
def Ol {p:HO} {Q M R:Nat} (h:okAll p Q M R) (hQ:Q<=900000000000) (hM:M<=50000000000) (hR:R<=20000000000):okTail p:=by
 obtain⟨⟨a1,a2⟩,⟨b1,b2⟩,⟨c1,c2⟩,⟨d1,d2,d3,d4⟩,e1,f1⟩:=h;have hg:logP p.log<=3000000:=e1;have hc:AD p.bm+szAddr p.addr+p.tok.rest.size<=9000000:=by(unfold okCm at f1;omega)
 unfold nodeP at b1;unfold openP at b2;unfold slotP at c1;unfold entP at d1;unfold modP at d2;unfold ranP at d3;unfold logP at hg;have hn:=Ad AF p.ba.bj;have hb:szBuilder p.ba=szL AF p.ba.bj+p.ba.bn.length:=rfl;have hh:p.addr.host.size<=szAddr p.addr:=by simp only[szAddr];omega
 refine⟨⟨⟨?_,o_,λi hi=>?_,o_,o_⟩,o_,λi hi=>?_⟩,λi hi=>?_,o_,λi hi=>?_⟩
 ·simp only[Al,Ek];omega
 ·have:=a1 _ (Ae hi);omega
 ·have:=c2 _ (Ae hi);omega
 ·have:=d4 _ (Ae hi);omega
 ·have:=Ct szAddr hi;have h3:(p.bh.getD i default).host.size<=szAddr (p.bh.getD i default):=by simp only[szAddr];omega
  omega
def step1 (p:HO):HO×Bool:=if(stepParser p).2=true then stepParser p else stepTail p
def adv:Nat->HO->HO
 | 0,p=>p
 | n+1,p=>if(step1 p).2=true then adv n (step1 p).1 else p
def advance (p:HO):HO:=adv 2000 p
def AbG {p:HO} (h:(stepParser p).2=true):step1 p=stepParser p:=by unfold step1;rw[G_ h]
def UF {p:HO} (h:(stepParser p).2=false):step1 p=stepTail p:=by unfold step1;rw[F_ (by rw[h];decide)]
def VX {p:HO} {Q M R:Nat} (h:okAll p Q M R):okAll (step1 p).1 (Q+370) M R:=by
 unfold step1;split
 ·exact Aba h
 ·exact AiM h
def Agv {M R:Nat}:∀ (n:Nat) (p:HO) (Q:Nat),okAll p Q M R->okAll (adv n p) (Q+370*n) M R
 | 0,p,Q,h=>h
 | n+1,p,Q,h=>by
  rw[adv];split
  ·have:=Agv n _ _ (VX h);rw[show Q+370+370*n=Q+370*(n+1) from o_] at this;exact this
  ·exact En h o_
def OQ {p:HO} {Q M R:Nat} (h:okAll p Q M R):okAll (advance p) (Q+740000) M R:=Agv 2000 p Q h
def okAdv (p:HO):Prop:=∃ Q M R,okAll p Q M R/\Q<=899000000000/\M<=50000000000/\R<=20000000000
def advInv (p q:HO) (i:Int):Prop:=0<=i/\i<=2000/\adv (2000-i.toNat) q=advance p/\∃ Q M R,okAll q (Q+370*i.toNat) M R/\Q<=899000000000/\M<=50000000000/\R<=20000000000
def PJ {p:HO} (h:okAdv p):advInv p p 0:=by
 obtain⟨Q,M,R,h1,h2⟩:=h;exact⟨o_,o_,rfl,Q,M,R,h1,h2⟩
def NQ {p q:HO} {i:Int} (h:advInv p q i):okTail q:=by
 obtain⟨h1,h2,_,Q,M,R,h3,h4,h5,h6⟩:=h;exact Ol h3 o_ h5 h6
def Sq {p q:HO} {i:Int} (h:advInv p q i) (hi:i<2000) (hs:(step1 q).2=true):advInv p (step1 q).1 (i+1):=by
 obtain⟨h1,h2,h0,Q,M,R,h3,h4⟩:=h;rw[show 2000-i.toNat=(2000-(i+1).toNat)+1 from o_,adv,G_ hs] at h0;refine⟨o_,o_,h0,Q,M,R,?_,h4⟩;have:=VX h3;rw[show Q+370*i.toNat+370=Q+370*(i+1).toNat from o_] at this;exact this
def Nm {p q:HO} {i:Int} (h:advInv p q i) (hs:i<2000->(step1 q).2=false):q=advance p:=by
 obtain⟨h1,h2,h0,_⟩:=h;rcases Nat.eq_zero_or_pos (2000-i.toNat) with hz|hz
 ·rw[hz] at h0;exact h0
 ·obtain⟨n,hn⟩:∃ n,2000-i.toNat=n+1:=⟨2000-i.toNat-1,o_⟩;rw[hn,adv,F_ (by rw[hs o_];decide)] at h0;exact h0
abbrev FY:Fct:=⟨[.v (.el .page)],[.el .page],λ(x:ai)=>okAdv x.1,λ(x:ai)=>(advance x.1,())⟩
abbrev CY (p:HO):LInv:=⟨[⟨.b,3,true,.el .page⟩,⟨.s,4,true,.el .int⟩,⟨.b,2,true,.el .page⟩],λ(z x:dQ)=>(advInv p x.1 x.2.1)/\x.2.2.1=z.2.2.1,λ(x:dQ)=>(2000-x.2.1).toNat⟩
def Am3:=AmK.a FY<|Fct.p (KP [1,2,3,4,5,6] [10,19,26]) (λ⟨p,_⟩=>lv [(3,CY p)]) AmK.2 func29 (by
 rintro⟨(p:HO),_⟩ hp;refine ho (.cl AW (p,()) λz2=>lpx (CY p) (z2.1,((0:Int),(default,()))) λ(y2:dQ) bk2=>.br (decide (y2.2.1<2000)) (.cl CM (y2.1,()) λz3=>.br (!z3.2.1) (.cl FI (y2.1,()) λz4=>.br (!z4.2.1) (.lf FY (y2.1,())) (.bk (bk2 (z4.1,(w1 y2.2.1,(y2.2.2.1,())))))) (.br (!z3.2.1) (.lf FY (y2.1,())) (.bk (bk2 (z3.1,(w1 y2.2.1,(y2.2.2.1,()))))))) (.lf FY (y2.1,()))) ?_;refine Aj ?_ λ_=>(Aq ?_ λ(y2:dQ) i2=>Aa (λh3=>Aj ?_ λ_=>Aa (λh5=>Aj ?_ λ_=>Aa (λh7=>lfY ?_) λh7=>AR ?_) λh5=>Aa (λh9=>lfY ?_) λh9=>AR ?_) λh3=>lfY ?_)<;>(have hq:okAdv p:=hp;have h0:=(NQ (PJ hq)).1.1.1;try simp only[AA] at *)<;>(try simp only[std,Nat.reduceAdd] at *)<;>(first|trivial|omega|skip)<;>(first|exact PJ hq|exact⟨PJ hq,rfl⟩|(obtain⟨i3,e1⟩:=i2;have ht:=NQ i3))<;>(first|exact ht|exact ht.1|exact(tf ‹_› ‹_›).elim|skip)<;>(first|exact Nm i3 (λh=>absurd h o_)|exact Nm i3 (λ_=>by rw[UF ‹_›];assumption)|skip)<;>rw[Aw (by have:=i3.1;omega)]<;>(first|(have e:=Sq i3 ‹_› (by rw[UF ‹_›];assumption);rw[UF ‹_›] at e;exact⟨⟨e,e1⟩,o_⟩)|(have e:=Sq i3 ‹_› (by rw[AbG ‹_›];assumption);rw[AbG ‹_›] at e;exact⟨⟨e,e1⟩,o_⟩)))
def arrPage (l:O_):HO:=if l.parts.length=1 then endPage (arriveText l.page (l.parts.getD 0 default)) else arriveText l.page (l.parts.getD 0 default)
def arrivePart (l:O_):O_×Bool:=if l.parts.length=0 then(l,false) else({ l with parts:=l.parts.drop 1,page:=advance (arrPage l)},true)
def AgQ:∀ l:List aw,undS l<=l.length
 | []=>Y_ _
 | s::l=>by have:=AgQ l;rw[undS,aq];split<;>omega
def AdD:∀ l:List X_,undM l<=l.length
 | []=>Y_ _
 | s::l=>by have:=AdD l;rw[undM,aq];split<;>omega
def AgR (r:List FS):∀ l:List X_,nrL r l<=szL Ar l
 | []=>Y_ _
 | s::l=>by have:=AgR r l;rw[nrL,Ah];split<;>simp only[Ar]<;>omega
def U9 {p:HO} (h:Al p<=2000000):okAll p 2000000 1100000000 10000000:=by
 have h1:=Ad AO p.bf;have h2:=Ad Ar p.bi;have h3:=AgQ p.bf;have h4:=AdD p.bi;have h5:=AgR p.ran p.bi;have h6:=Ad AF p.ba.bj;simp only[Al,Ek,szBuilder] at h;refine⟨⟨λt ht=>?_,o_⟩,⟨?_,?_⟩,⟨?_,λs hs=>?_⟩,⟨?_,?_,?_,λm hm=>?_⟩,?_,?_⟩
 ·have:=HZ szToken ht;omega
 ·unfold nodeP;omega
 ·unfold openP;omega
 ·unfold slotP;omega
 ·have:=HZ AO hs;simp only[AO] at this;omega
 ·unfold entP;omega
 ·unfold modP;omega
 ·unfold ranP;omega
 ·have:=HZ Ar hm;simp only[Ar] at this;omega
 ·unfold okLg logP;omega
 ·unfold okCm;omega
def Rv {p:HO} {Q M R:Nat} {s:ByteArray} (h:okAll p Q M R) (hs:p.tok.rest.size+s.size<=3000000):okAll (arriveText p s) (Q+3000001) M R/\(arriveText p s).tok.rest.size<=p.tok.rest.size+s.size+1:=by
 unfold arriveText;split
 ·exact⟨En h o_,o_⟩
 ·obtain⟨h1,h2,h3,h4,h5,h6⟩:=h;have hz:=KO (p.tok.rest++s);rw[aN] at hz;refine⟨⟨⟨λt ht=>?_,?_⟩,h2,h3,h4,h5,?_⟩,?_⟩
  ·rcases ae.1 ht with q|q
   ·exact h1.1 t q
   ·have:=HZ szToken q;omega
  ·dsimp only;rw[B0];have:=h1.2;omega
  ·unfold okCm at *;dsimp only;omega
  ·dsimp only;omega
def AgT {p:HO} {Q M R:Nat} (h:okAll p Q M R) (hs:p.tok.rest.size<=3000010):okAll (endPage p) (Q+3000020) M R/\(endPage p).tok.rest.size<=p.tok.rest.size:=by
 unfold endPage;split
 ·exact⟨En h o_,Y_ _⟩
 ·obtain⟨h1,h2,h3,h4,h5,h6⟩:=h;have hz:=ON p.tok.rest;have h0:(default:dj).rest.size=0:=rfl;refine⟨⟨⟨λt ht=>?_,?_⟩,h2,h3,h4,h5,?_⟩,?_⟩
  ·rcases ae.1 ht with q|q
   ·exact h1.1 t q
   ·have:=HZ szToken q;omega
  ·dsimp only;rw[B0];have:=h1.2;omega
  ·unfold okCm at *;dsimp only;omega
  ·dsimp only;omega
def Age {l:O_} {Q M R:Nat} (h:okAll l.page Q M R) (hs:l.page.tok.rest.size+(l.parts.getD 0 default).size<=3000000):okAll (arriveText l.page (l.parts.getD 0 default)) (Q+3000001) M R/\okAll (arrPage l) (Q+6000021) M R/\(arrPage l).tok.rest.size<=l.page.tok.rest.size+(l.parts.getD 0 default).size+1:=by
 have h1:=Rv h hs;unfold arrPage;split
 ·have h2:=AgT h1.1 o_;exact⟨h1.1,En h2.1 o_,o_⟩
 ·exact⟨h1.1,En h1.1 o_,h1.2⟩
def IE {p:HO} {Q M R:Nat} (h:okAll p Q M R) (hQ:Q<=900000000000) (hM:M<=50000000000) (hR:R<=20000000000):Al p<=1000000000000:=(Ol h hQ hM hR).1.1.1
def okLd (l:O_):Prop:=∃ Q M R,okAll l.page Q M R/\Q<=890000000000/\M<=50000000000/\R<=20000000000
def okArr (l:O_):Prop:=(szNet l.net<=68719476736/\l.conns.length<=1048576/\l.guesses.length<=4194304)/\l.page.tok.rest.size+szL Ag l.parts<=2900000/\okLd l
def AeG {l:O_} (h:okArr l) (hl:l.parts.length≠0):Al l.page<=1000000000000/\l.page.tok.rest.size<=10000000/\(l.parts.getD 0 default).size<=10000000/\Al (arriveText l.page (l.parts.getD 0 default))<=1000000000000/\okAdv (arrPage l):=by
 obtain⟨h1,h2,Q,M,R,h3,h4,h5,h6⟩:=h;have hg:=Ct Ag (l:=l.parts) (i:=0) o_;simp only[Ag] at hg;obtain⟨a1,a2,a3⟩:=Age h3 o_;exact⟨IE h3 o_ h5 h6,o_,o_,IE a1 o_ h5 h6,Q+6000021,M,R,a2,o_,h5,h6⟩
def UB {l:O_} (h:l.parts.length≠0):arrivePart l=({ l with parts:=l.parts.drop 1,page:=advance (arrPage l)},true):=by unfold arrivePart;rw[F_ h]
def AgA {l:O_} (h:l.parts.length=0):arrivePart l=(l,false):=by unfold arrivePart;rw[G_ h]
def Adg {l:O_} (h:l.parts.length=1):arrPage l=endPage (arriveText l.page (l.parts.getD 0 default)):=by unfold arrPage;rw[G_ h]
def AdE {l:O_} (h:l.parts.length≠1):arrPage l=arriveText l.page (l.parts.getD 0 default):=by unfold arrPage;rw[F_ h]
def WH {α:Type} {l:List α}:cut l 1 (l.length-1)=l.drop 1:=by
 unfold cut;rw[ci (by simp)]
abbrev Fz:Fct:=⟨[.v (.el .loader)],[.el .loader,.el .bool],λ(x:ct)=>okArr x.1,λ(x:ct)=>((arrivePart x.1).1,(arrivePart x.1).2,())⟩
def AmJ:=Am3.a Fz<|Fct.o (KP [1,2,3,4,5] [11,27]) Am3.2 func132 (by
 rintro⟨(l:O_),_⟩ hp;refine ho (.cl CJ (l,()) λz2=>.br ((l.parts.length:Int)==0) (.lf Fz (z2.1,false,())) (.ob ((0:Int)<=(0:Int)/\(0:Int)<(l.parts.length:Int))<|.cl Fx (l.page,l.parts.getD 0 default,()) λz3=>.ob ((0:Int)<=(1:Int)/\(1:Int)<=(z2.1.parts.length:Int))<|.br ((↑(z2.1.parts.length-1):Int)==0) (.cl J5 (z3.1,()) λz4=>.cl FY (z4.1,()) λz5=>.ob (1+(z2.1.parts.length-1)<=z2.1.parts.length)<|.lf Fz (⟨z2.1.net,z5.1,cut z2.1.parts 1 (z2.1.parts.length-1),z2.1.conns,z2.1.guesses⟩,true,())) (.cl FY (z3.1,()) λz6=>.ob (1+(z2.1.parts.length-1)<=z2.1.parts.length)<|.lf Fz (⟨z2.1.net,z6.1,cut z2.1.parts 1 (z2.1.parts.length-1),z2.1.conns,z2.1.guesses⟩,true,())))) ?_;refine Aj ?_ λ_=>(Aa (λh2=>lfY ?_) λh2=>Ac ?_ λ_=>Aj ?_ λ_=>Ac ?_ λ_=>Aa (λh6=>Aj ?_ λ_=>Aj ?_ λ_=>Ac ?_ λ_=>lfY ?_) λh6=>Aj ?_ λ_=>Ac ?_ λ_=>lfY ?_)<;>have hq:okArr l:=hp<;>obtain⟨hsz1,hsz2,hsz3⟩:=hq.1<;>(have hpg:Al l.page<=1000000000000:=by(obtain⟨Q,M,R,h1,h2,h3,h4⟩:=hq.2.2;exact IE h1 o_ h3 h4))<;>(have hpl:l.parts.length<=2900000:=by(have h1:=hq.2.1;have:=Ad Ag l.parts;omega))<;>(try simp only[AA] at *)<;>(try simp only[std,Nat.reduceAdd] at *)<;>(first|trivial|omega|(rw[AgA o_];exact⟨rfl,rfl⟩)|(obtain⟨g1,g2,g3,g4,g5⟩:=AeG hq o_)|skip)<;>(first|trivial|omega|exact⟨g1,g2,g3⟩|skip)<;>(first|(rw[Adg o_] at g5;first|exact g5|(rw[UB o_,Adg o_,WH];exact⟨rfl,rfl⟩))|(rw[AdE o_] at g5;first|exact g5|(rw[UB o_,AdE o_,WH];exact⟨rfl,rfl⟩))))
def L9 {b:UInt8}:∀ {l p q:List UInt8},Ge b l=some (p,q)->l=p++b::q/\b∉p
 | [],p,q,h=>by cases h
 | x::l,p,q,h=>by
  rw[Ge] at h;split at h
  ·rename_i hx;obtain⟨rfl,rfl⟩:=Prod.mk.inj (Option.some.inj h);exact⟨by rw[hx];rfl,by simp⟩
  ·rename_i hx;obtain⟨r,hr,he⟩:=Option.map_eq_some_iff.1 h;obtain⟨rfl,rfl⟩:=Prod.mk.inj he;obtain⟨h1,h2⟩:=L9 (p:=r.1) (q:=r.2) hr;refine⟨by rw[h1];rfl,?_⟩;rw[ah];rintro(h|h)
   ·exact hx h.symm
   ·exact h2 h
open Go.RowKit Go.Lib Go.Sort in
def mN (w:World) (cap:Nat) (x:Array Value):World :=
 ((w.alloc (.cells (#[.string ⟨#[91]⟩,.string ⟨#[60]⟩,.string ⟨#[93]⟩,.string ⟨#[62]⟩]++x) 9)).alloc (.cells #[.int .u32 0,.int .i32 0,.int .u32 0,.nilIface,.slice (some ⟨w.heap.size,0,none⟩) 4 cap] 0)).drew
def JN (p:aQ) (r:ay) (x:L_):(usable p r x).1.size<=400:=by
 unfold usable;split
 ·rename_i h;by_cases hi:isResponse x=true
  ·unfold isResponse at hi;simp only[S_,av] at hi;exact hi.2.2.1
  ·exfalso;unfold checkResponse at h;split at h
   ·cases h
   ·rw[G_ (.inl (by simpa using hi))] at h;cases h
 ·exact Nat.zero_le _
def Uc {α:Type} (f:α->α) (m:α) (B:List α):∀ A:List α,(A++m::B).modify A.length f=A++f m::B
 | []=>rfl
 | a::A=>cB (List.cons a) (Uc f m B A)
def BT {α:Type} [Inhabited α] (f:α->α) {l:List α} {i:Nat} (h:i<l.length):l.modify i f=l.take i++f (l.getD i default)::l.drop (i+1):=by
 have e:(l.take i).length=i:=by rw[cX];omega
 have:=Uc f (l.getD i default) (l.drop (i+1)) (l.take i);rw[e,<-B_ h,di] at this;exact this
def Gm {α:Type} (f g:α->α):∀ (l:List α) (i:Nat),(l.modify i f).modify i g=l.modify i λz=>g (f z)
 | [],0=>rfl
 | [],_+1=>rfl
 | _::_,0=>rfl
 | a::l,i+1=>cB (List.cons a) (Gm f g l i)
def Of {p:HO} {k:Int} (h0:0<=k) (h:k<p.bf.length):slotRequest p k=reqOf p (p.bf.getD k.toNat default):=by unfold slotRequest;rw[G_ ⟨h0,h⟩];rfl
def Akh {p:HO} {k:Int} {x:L_} (h0:0<=k) (h:k<p.bf.length) (hd:(p.bf.getD k.toNat default).done=false):(((p.bf.modify k.toNat λz=>(⟨z.mode,z.to,z.digest,z.node,true,z.code,z.body⟩:aw)).modify k.toNat λz=>(⟨z.mode,z.to,z.digest,z.node,z.done,checkResponse p.bm (slotRequest p k) x,z.body⟩:aw)).modify k.toNat λz=>(⟨z.mode,z.to,z.digest,z.node,z.done,z.code,(usable p.bm (slotRequest p k) x).1⟩:aw))=p.bf.modify k.toNat (fillS p x):=by
 have hi:k.toNat<p.bf.length:=o_
 rw[Gm,Gm,BT _ hi,BT _ hi,Of h0 h];unfold fillS;rw[F_ (by rw[hd];decide)]
def YK {p:HO} {k:Int} {x:L_} (h0:0<=k) (h:k<p.bf.length) (hd:(p.bf.getD k.toNat default).done=true):fillSlot p k x=p:=by
 have hi:k.toNat<p.bf.length:=o_
 have e:p.bf.modify k.toNat (fillS p x)=p.bf:=by rw[BT _ hi];unfold fillS;rw[G_ hd,<-B_ hi,di]
 unfold fillSlot;rw[G_ ⟨h0,h⟩,e]
def Amf:=AmJ.a J9<|Fct.o (KP [1,3,5,6,7,8] [25]) AmJ.2 func122 (by
 rintro⟨(p:HO),(k:Int),(x:L_),_⟩ hp;refine ho (.cl AW (p,()) λz2=>let H_:Out:=.lf J9 (z2.1,());.cl AC (k,(0:Int),wr ((p.bf.length:Int)-(1:Int)),()) λz3=>.br (!z3.1) H_ (.ob (inB k p.bf.length)<|.br ((p.bf.getD (Int.toNat k) default).done) H_ (.cl DB (p,k,()) λz4=>.ob (inB k z2.1.bf.length)<|.ob (Int.toNat k<z2.1.bf.length)<|.lt (List aw) (z2.1.bf.modify (Int.toNat k) λz=>({z with done:=true}:aw)) λz5=>.cl AU (p.bm,z4.1,x,()) λ(z6:E_)=>.ob (inB k z5.length)<|.ob (Int.toNat k<z5.length)<|.lt (List aw) (z5.modify (Int.toNat k) λz=>({z with code:=z6.1}:aw)) λz7=>.cl FO (p.bm,z4.1,x,()) λz8=>.ob (inB k z7.length)<|.ob (Int.toNat k<z7.length)<|.lt (List aw) (z7.modify (Int.toNat k) λz=>({z with body:=z8.1}:aw)) λz9=>.lf J9 ({z2.1 with bf:=z9},())))) ?_;refine Aj ?_ λ_=>(Aj trivial λ_=>Aa (λh2=>lfY ?_) λh2=>Ac ?_ λ_=>Aa (λh4=>lfY ?_) λh4=>Aj ?_ λ_=>Ac ?_ λ_=>Ac ?_ λ_=>K6 (Aj ?_ λ_=>Ac ?_ λ_=>Ac ?_ λ_=>K6 (Aj ?_ λ_=>Ac ?_ λ_=>Ac ?_ λ_=>K6 (lfY ?_))))<;>obtain⟨q1,q2,q3,q4,q5,q6,q7⟩:=(show Al p<=1000000000000/\p.addr.host.size<=4000000000/\(∀ i,i<p.bf.length->AO (p.bf.getD i default)<=50000000000)/\-9223372036854775808<=k/\k<=9223372036854775807/\x.bm.size<=200000000/\x.body.size<=1000000000 from hp)<;>(have hl:p.bf.length<=1000000000000:=by have:=Ad AO p.bf;simp only[Al] at q1;omega)<;>(have hpo:AD p.bm<=1000000000000:=by simp only[Al] at q1;omega)<;>(try simp only[AA] at *)<;>(try simp only[std,Nat.reduceAdd,inRange] at *)<;>(try rw[Aw o_] at h2)<;>(try simp only[S_,fX,av,cy] at h2)<;>(first|trivial|omega|(unfold fillSlot;rw[F_ o_])|exact(YK o_ o_ ‹_›).symm|(simp only[List.length_modify];omega)|skip)<;>(first|(rw[Of o_ o_];have:=q3 k.toNat o_;simp only[AO] at this;exact⟨o_,by simp only[Bx,reqOf];simp only[szAddr] at *;omega,q6,q7⟩)|(unfold fillSlot;rw[G_ o_,<-Akh o_ o_ ‹_›])))
def fillF (p:HO) (a:FS) (x:L_) (s:aw):aw:=if s.to=a then fillS p x s else s
def fillTo (p:HO) (a:FS) (x:L_) (i:Nat):HO:={ p with bf:=(p.bf.take i).map (fillF p a x)++p.bf.drop i }
def fillAll (p:HO) (a:FS) (x:L_):HO:={ p with bf:=p.bf.map (fillF p a x)}
def und1 (s:aw):Nat:=if s.done=true then 0 else 1
def Vz (p:HO) (a:FS) (x:L_) (s:aw):AO (fillF p a x s)+400*und1 (fillF p a x s)<=AO s+400*und1 s/\(fillF p a x s).body.size<=s.body.size+400/\(s.body.size<=2000000->(fillF p a x s).body.size<=2000000):=by
 unfold fillF;split
 ·unfold fillS;split
  ·exact⟨Y_ _,o_,id⟩
  ·rename_i h;have hu:=JN p.bm (reqOf p s) x;refine⟨?_,by dsimp only;omega,λ_=>by dsimp only;omega⟩;unfold und1 AO;dsimp only;rw[G_ rfl,F_ h];omega
 ·exact⟨Y_ _,o_,id⟩
def WN (p:HO) (a:FS) (x:L_):∀ l:List aw,szL AO (l.map (fillF p a x))+400*undS (l.map (fillF p a x))<=szL AO l+400*undS l
 | []=>Y_ _
 | s::l=>by have h:=WN p a x l;have h1:=(Vz p a x s).1;rw[bz,Ah,Ah,undS,undS];unfold und1 at h1;omega
def Aix (l:List aw) (i:Nat):undS (l.take i)+undS (l.drop i)=undS l:=by rw[<-LV,di]
def MF {p:HO} {Q M R:Nat} (h:okAll p Q M R) (a:FS) (x:L_) (i:Nat):okAll (fillTo p a x i) Q M R:=by
 obtain⟨h1,h2,⟨h3,h4⟩,h5,h6,h7⟩:=h;refine⟨h1,h2,⟨?_,λs hs=>?_⟩,h5,h6,h7⟩
 ·unfold slotP at *
  have e1:=AbA AO p.bf i;have e2:=Aix p.bf i;have e3:=WN p a x (p.bf.take i);have e4:((p.bf.take i).map (fillF p a x)++p.bf.drop i).length=p.bf.length:=by rw[ak,cC,<-ak,di]
  show szL AO ((p.bf.take i).map (fillF p a x)++p.bf.drop i)+400*undS ((p.bf.take i).map (fillF p a x)++p.bf.drop i)+500000800*(20-((p.bf.take i).map (fillF p a x)++p.bf.drop i).length)<=_;rw[B0,LV,e4];omega
 ·rcases ae.1 hs with q|q
  ·obtain⟨s0,q0,rfl⟩:=bG.1 q;exact(Vz p a x s0).2.2 (h4 s0 (fH q0))
  ·exact h4 s (fC q)
def Ad3 (p:HO) (a:FS) (x:L_):fillTo p a x 0=p:=rfl
def KU {p:HO} {a:FS} {x:L_} {i:Nat} (h:p.bf.length<=i):fillTo p a x i=fillAll p a x:=by
 unfold fillTo fillAll;rw[ci h,bQ h,cz]
def X8 (p:HO) (a:FS) (x:L_) (i:Nat):(fillTo p a x i).bf.length=p.bf.length:=by
 show((p.bf.take i).map (fillF p a x)++p.bf.drop i).length=_;rw[ak,cC,<-ak,di]
def Mk {p:HO} {a:FS} {x:L_} {i:Nat} (h:i<p.bf.length):fillTo p a x (i+1)={ p with bf:=(p.bf.take i).map (fillF p a x)++fillF p a x (p.bf.getD i default)::p.bf.drop (i+1)}:=by
 unfold fillTo;rw[P_ h,fG,bF];rfl
def Tk {p:HO} {a:FS} {x:L_} {i:Nat} (h:i<p.bf.length) (hs:¬ (p.bf.getD i default).to=a\/(p.bf.getD i default).done=true):fillTo p a x (i+1)=fillTo p a x i:=by
 have e:fillF p a x (p.bf.getD i default)=p.bf.getD i default:=by
  unfold fillF;rcases hs with hs|hs
  ·rw[F_ hs]
  ·split
   ·unfold fillS;rw[G_ hs]
   ·rfl
 rw[Mk h,e,<-B_ h];rfl
def AcW {p:HO} {a:FS} {x:L_} {i:Nat} (h:i<p.bf.length) (hs:(p.bf.getD i default).to=a):fillSlot (fillTo p a x i) (i:Int) x=fillTo p a x (i+1):=by
 unfold fillSlot;rw[X8,G_ o_,Mk h];have e:fillF p a x (p.bf.getD i default)=fillS p x (p.bf.getD i default):=by unfold fillF;rw[G_ hs]
 have el:((p.bf.take i).map (fillF p a x)).length=i:=by rw[cC,cX];omega
 show({ p with bf:=((p.bf.take i).map (fillF p a x)++p.bf.drop i).modify (i:Int).toNat (fillS p x)}:HO)=_;have:=Uc (fillS p x) (p.bf.getD i default) (p.bf.drop (i+1)) ((p.bf.take i).map (fillF p a x));rw[el] at this;rw[B_ h,ev,this,e]
def D1 {p:HO} (h:okAdv p):Al p<=1000000000000/\AD p.bm+szAddr p.addr<=4000000/\p.bf.length<=100000000000/\(∀ i,i<p.bf.length->AO (p.bf.getD i default)<=50000000000)/\p.bi.length<=60000000000/\okMb p:=by
 obtain⟨Q,M,R,h1,h2,h3,h4⟩:=h;have hz:=IE h1 o_ h3 h4;have hs:szL AO p.bf<=13000000000:=by have:=h1.2.2.1.1;unfold slotP at this;omega
 have hm:szL Ar p.bi<=50000000000:=by have:=h1.2.2.2.1.2.1;unfold modP at this;omega
 have l1:=Ad AO p.bf;have l2:=Ad Ar p.bi;refine⟨hz,h1.2.2.2.2.2.1,o_,λi hi=>?_,o_,λi hi=>?_⟩
 ·have:=Ct AO hi;omega
 ·have:=h1.2.2.2.1.2.2.2 _ (Ae hi);omega
def XV {p:HO} (h:okAdv p) (a:FS) (x:L_) (i:Nat):okAdv (fillTo p a x i):=by
 obtain⟨Q,M,R,h1,h2⟩:=h;exact⟨Q,M,R,MF h1 a x i,h2⟩
def Yg {p:HO} {a:FS} {x:L_} {k:Int} (h0:0<=k) (h:k<p.bf.length) (hs:(p.bf.getD k.toNat default).to=a):fillSlot (fillTo p a x k.toNat) k x=fillTo p a x (k.toNat+1):=by
 obtain⟨i,rfl⟩:∃ i:Nat,k=i:=⟨k.toNat,o_⟩;exact AcW o_ hs
abbrev QV:Fct:=⟨[.v (.el .page),.v (.el .addr),.v (.el .bd)],[.el .page],λ(x:cN)=>okAdv x.1/\x.2.2.1.bm.size<=200000000/\x.2.2.1.body.size<=1000000000,λ(x:cN)=>(fillAll x.1 x.2.1 x.2.2.1,())⟩
abbrev C3 (p:HO) (a:FS) (x:L_):LInv:=⟨[⟨.b,7,true,.el .page⟩,⟨.s,8,true,.el .int⟩,⟨.b,3,false,.el .page⟩,⟨.b,4,true,.el .addr⟩,⟨.b,5,true,.el .bd⟩,⟨.b,6,true,.el .page⟩],λ(z x_:dR)=>((((0<=x_.2.1/\x_.2.1<=p.bf.length/\x_.1=fillTo p a x x_.2.1.toNat)/\x_.2.2.1=z.2.2.1)/\x_.2.2.2.1=z.2.2.2.1)/\x_.2.2.2.2.1=z.2.2.2.2.1)/\x_.2.2.2.2.2.1=z.2.2.2.2.2.1,λ(x_:dR)=>p.bf.length-x_.2.1.toNat⟩
def AmS:=Amf.a QV<|Fct.p (KP [3,4,5,6,7,8] [15,34]) (λ⟨p,a,x,_⟩=>lv [(3,C3 p a x)]) Amf.2 func73 (by
 rintro⟨(p:HO),(a:FS),(x:L_),_⟩ hp;refine ho (.cl AW (p,()) λz2=>lpx (C3 p a x) (z2.1,((0:Int),(p,(a,(x,(default,())))))) λ(y2:dR) bk2=>let M_:=inB y2.2.1 y2.2.2.1.bf.length;let J_:=y2.2.2.1.bf.getD y2.2.1.toNat default;let H_:Out:=.bk (bk2 (y2.1,(w1 y2.2.1,(y2.2.2.1,(y2.2.2.2.1,(y2.2.2.2.2.1,(y2.2.2.2.2.2.1,())))))));.br (decide (y2.2.1<(y2.2.2.1.bf.length:Int))) (.ob M_<|.br (!J_.done) (.ob M_<|.br (J_.to.host==y2.2.2.2.1.host&&(J_.to.path==y2.2.2.2.1.path&&true)) (.cl J9 (y2.1,y2.2.1,y2.2.2.2.2.1,()) λz3=>.bk (bk2 (z3.1,(w1 y2.2.1,(y2.2.2.1,(y2.2.2.2.1,(y2.2.2.2.2.1,(y2.2.2.2.2.2.1,())))))))) H_) H_) (.lf QV (y2.1,()))) ?_;refine Aj ?_ λ_=>(Aq ?_ λ(y2:dR) i2=>Aa (λh3=>Ac ?_ λ_=>Aa (λh5=>Ac ?_ λ_=>Aa (λh7=>Aj ?_ λ_=>AR ?_) λh7=>AR ?_) λh5=>AR ?_) λh3=>lfY ?_)<;>obtain⟨q1,q2,q3⟩:=(show okAdv p/\x.bm.size<=200000000/\x.body.size<=1000000000 from hp)<;>(have hok:=D1 q1;try simp only[AA] at *)<;>(try simp only[std,Nat.reduceAdd] at *)<;>(first|trivial|omega|exact⟨o_,o_,(Ad3 p a x).symm⟩|skip)<;>(obtain⟨⟨⟨⟨⟨a1,a2,a3⟩,e1⟩,e2⟩,e3⟩,e4⟩:=i2;simp only[a3,e1,e2,e3,De,av,cy] at *)<;>(first|trivial|omega|(rw[KU o_])|skip)<;>(have hk:=D1 (XV q1 a x y2.2.1.toNat);have hh:(fillTo p a x y2.2.1.toNat).addr.host.size<=4000000:=by have:=hk.2.1;simp only[szAddr] at this;omega)<;>(first|exact⟨hk.1,o_,hk.2.2.2.1,o_,o_,q2,q3⟩|skip)<;>rw[Aw o_,show(y2.2.1+1).toNat=y2.2.1.toNat+1 from o_]<;>(first|(rw[Yg a1 o_ ‹_›];exact⟨⟨⟨⟨⟨⟨o_,o_,rfl⟩,by trivial⟩,by trivial⟩,by trivial⟩,e4⟩,o_⟩)|(rw[Tk o_ (by first|exact .inl ‹_›|exact .inr ‹_›)];exact⟨⟨⟨⟨⟨⟨o_,o_,rfl⟩,by trivial⟩,by trivial⟩,by trivial⟩,e4⟩,o_⟩)|skip))
def fillM (p:HO) (x:L_) (m:X_):X_:={ m with done:=true,code:=checkResponse p.bm ⟨5,m.to,p.addr.host,⟨#[]⟩⟩ x,body:=(usable p.bm ⟨5,m.to,p.addr.host,⟨#[]⟩⟩ x).1 }
def fillM0 (p:HO) (a:FS) (x:L_):HO:={ p with bi:=p.bi.modify (findMod p.bi a).toNat (fillM p x)}
def fillModule (p:HO) (a:FS) (x:L_):HO:=if findMod p.bi a<0\/(p.bi.getD (findMod p.bi a).toNat default).done=true then p else(imports (fillM0 p a x) a).1.foldl askModule (fillM0 p a x)
def Np {p:HO} {Q M R:Nat} (h:okAll p Q M R) (a:FS) (x:L_) (h0:0<=findMod p.bi a) (hd:(p.bi.getD (findMod p.bi a).toNat default).done=false):okAll (fillM0 p a x) Q M R:=by
 have hf:=Bu p.bi a;have hi:(findMod p.bi a).toNat<p.bi.length:=o_
 obtain⟨h1,h2,h3,⟨h4,h5,h6,h7⟩,h8⟩:=h;have hu:=JN p.bm ⟨5,(p.bi.getD (findMod p.bi a).toNat default).to,p.addr.host,⟨#[]⟩⟩ x;have e:=BT (fillM p x) hi;have t1:=AbA Ar p.bi (findMod p.bi a).toNat;have t2:=AcG p.bi (findMod p.bi a).toNat;have t3:=Agm p.ran p.bi (findMod p.bi a).toNat;rw[B_ hi] at t1 t2 t3;rw[Ah] at t1;rw[undM,hd,F_ (by decide)] at t2;rw[nrL] at t3;refine⟨h1,h2,h3,⟨h4,?_,?_,λm hm=>?_⟩,h8⟩
 ·unfold modP at *
  show szL Ar (p.bi.modify (findMod p.bi a).toNat (fillM p x))+500*undM (p.bi.modify (findMod p.bi a).toNat (fillM p x))+600*(20-p.bh.length)<=M;rw[e,B0,Ah,LZ,undM];have e1:Ar (fillM p x (p.bi.getD (findMod p.bi a).toNat default))<=Ar (p.bi.getD (findMod p.bi a).toNat default)+400:=by unfold Ar fillM;dsimp only;omega
  have e2:(fillM p x (p.bi.getD (findMod p.bi a).toNat default)).done=true:=rfl;rw[G_ e2];omega
 ·unfold ranP at *
  show szL szAddr p.ran+nrL p.ran (p.bi.modify (findMod p.bi a).toNat (fillM p x))+100*(20-p.bh.length)<=R;rw[e,Qk,nrL];have e3:(fillM p x (p.bi.getD (findMod p.bi a).toNat default)).to=(p.bi.getD (findMod p.bi a).toNat default).to:=rfl;rw[e3];omega
 ·have hm:m∈p.bi.modify (findMod p.bi a).toNat (fillM p x):=hm;rw[e] at hm;rcases ae.1 hm with q|q
  ·exact h7 m (fH q)
  ·rcases ah.1 q with q|q
   ·rw[q];exact aR hu (by decide)
   ·exact h7 m (fC q)
def AgP {p:HO} {Q M R:Nat} (h:okAll p Q M R) {b:FS} (hb:b.host.size<=8/\b.path.size<=8):okAll (askModule p b) Q (M+600) (R+20):=by
 obtain⟨h1,h2,h3,⟨h4,h5,h6,h7⟩,h8⟩:=h;obtain⟨a1,a2,a3,a4,a5⟩:=Agt p b;have hs:szAddr b<=16:=by unfold szAddr;omega
 rw[a5];refine⟨h1,h2,h3,⟨h4,?_,?_,λm hm=>?_⟩,h8⟩
 ·unfold modP at *;dsimp only;omega
 ·unfold ranP at *;dsimp only;omega
 ·rcases a4 m hm with q|q
  ·exact h7 m q
  ·omega
def TK {Q:Nat}:∀ (l:List FS) (p:HO) (M R:Nat),okAll p Q M R->(∀ b,b∈l->b.host.size<=8/\b.path.size<=8)->okAll (l.foldl askModule p) Q (M+600*l.length) (R+20*l.length)
 | [],p,M,R,h,_=>h
 | b::l,p,M,R,h,hb=>by
  have:=TK l (askModule p b) (M+600) (R+20) (AgP h (hb b cW)) λc hc=>hb c (cT _ hc)
  rw[dD,aq];rw[show M+600*(l.length+1)=M+600+600*l.length from o_,show R+20*(l.length+1)=R+20+20*l.length from o_];exact this
def FN (p:HO) (a:FS) (x:L_) (h0:0<=findMod p.bi a):findMod (fillM0 p a x).bi a=findMod p.bi a/\(fillM0 p a x).bi.getD (findMod p.bi a).toNat default=fillM p x (p.bi.getD (findMod p.bi a).toNat default):=by
 have hf:=Bu p.bi a;have hi:(findMod p.bi a).toNat<p.bi.length:=o_
 have gen:∀ (l:List X_) (k:Int) (i:Nat) (f:X_->X_),(∀ m,(f m).to=m.to)->AQ (λm:X_=>decide (m.to=a)) (l.modify i f) k=AQ (λm:X_=>decide (m.to=a)) l k:=by
  intro l
  induction l with
  | nil=>intro k i f hf;cases i<;>rfl
  | cons m l ih=>
   intro k i f hf;cases i with
   | zero=>
    show AQ _ (f m::l) k=_;rw[AQ,AQ,hf m]
   | succ i=>
    show AQ _ (m::l.modify i f) k=_;rw[AQ,AQ,ih (k+1) i f hf]
 refine⟨gen p.bi 0 _ _ λ_=>rfl,?_⟩;show(p.bi.modify (findMod p.bi a).toNat (fillM p x)).getD (findMod p.bi a).toNat default=_;rw[BT _ hi];have e:(p.bi.take (findMod p.bi a).toNat).length=(findMod p.bi a).toNat:=by rw[cX];omega
 rw[aV,cV o_,e,Nat.sub_self];rfl
def MM {p:HO} {a:FS} {x:L_} (h0:0<=findMod p.bi a):(∀ b,b∈(imports (fillM0 p a x) a).1->b.host.size<=8/\b.path.size<=8)/\(imports (fillM0 p a x) a).1.length<=400:=by
 obtain⟨h1,h2⟩:=Dw (fillM0 p a x) a;refine⟨h1,?_⟩;obtain⟨f1,f2⟩:=FN p a x h0;rw[f1,f2] at h2;have hu:=JN p.bm ⟨5,(p.bi.getD (findMod p.bi a).toNat default).to,p.addr.host,⟨#[]⟩⟩ x;rcases h2 with h2|⟨_,h2⟩
 ·rw[h2];exact Nat.zero_le _
 ·exact aR h2 hu
def P9 {p:HO} {Q M R:Nat} (h:okAll p Q M R) (a:FS) (x:L_):okAll (fillModule p a x) Q (M+240000) (R+8000):=by
 have mono:∀ {q:HO} {M' R':Nat},okAll q Q M' R'->M'<=M+240000->R'<=R+8000->okAll q Q (M+240000) (R+8000):=λh hM hR=>by obtain⟨h1,h2,h3,⟨h4,h5,h6,h7⟩,h8⟩:=h;exact⟨h1,h2,h3,⟨h4,o_,o_,h7⟩,h8⟩
 unfold fillModule;split
 ·exact mono h o_ o_
 ·rename_i hc;have h0:0<=findMod p.bi a:=o_
  have hd:(p.bi.getD (findMod p.bi a).toNat default).done=false:=by
   cases hq:(p.bi.getD (findMod p.bi a).toNat default).done with
   | false=>rfl
   | true=>exact absurd (.inr hq) hc
  obtain⟨i1,i2⟩:=MM (x:=x) h0;exact mono (TK _ _ M R (Np h a x h0 hd) i1) o_ o_
def fmInv (p:HO) (a:FS) (x:L_) (q:HO) (i:Int):Prop:=0<=i/\i<=(imports (fillM0 p a x) a).1.length/\((imports (fillM0 p a x) a).1.drop i.toNat).foldl askModule q=(imports (fillM0 p a x) a).1.foldl askModule (fillM0 p a x)/\∃ Q M R,okAll q Q (M+600*i.toNat) (R+20*i.toNat)/\Q<=899000000000/\M<=49000000000/\R<=19000000000
def okFM (p:HO):Prop:=∃ Q M R,okAll p Q M R/\Q<=899000000000/\M<=49000000000/\R<=19000000000
def EV {p:HO} (h:okFM p):okAdv p:=by
 obtain⟨Q,M,R,h1,h2,h3,h4⟩:=h;exact⟨Q,M,R,h1,h2,o_,o_⟩
def RQ {p q:HO} {a:FS} {x:L_} {i:Int} (h:fmInv p a x q i) (hi:(imports (fillM0 p a x) a).1.length<=400):okAdv q:=by
 obtain⟨h1,h2,_,Q,M,R,h3,h4,h5,h6⟩:=h;exact⟨Q,_,_,h3,h4,o_,o_⟩
def Aar {p:HO} {a:FS} {x:L_} (h:okFM p) (h0:0<=findMod p.bi a) (hd:(p.bi.getD (findMod p.bi a).toNat default).done=false):fmInv p a x (fillM0 p a x) 0:=by
 obtain⟨Q,M,R,h1,h2⟩:=h;exact⟨o_,o_,rfl,Q,M,R,Np h1 a x h0 hd,h2⟩
def AeI {p q:HO} {a:FS} {x:L_} {i:Int} (h:fmInv p a x q i) (h0:0<=findMod p.bi a) (hi:i<(imports (fillM0 p a x) a).1.length):fmInv p a x (askModule q ((imports (fillM0 p a x) a).1.getD i.toNat default)) (i+1):=by
 obtain⟨h1,h2,h3,Q,M,R,h4,h5⟩:=h;have hb:=(MM (x:=x) h0).1 _ (Ae (show i.toNat<(imports (fillM0 p a x) a).1.length from o_));rw[B_ (show i.toNat<(imports (fillM0 p a x) a).1.length from o_),dD] at h3;refine⟨o_,o_,by rw[show(i+1).toNat=i.toNat+1 from o_];exact h3,Q,M,R,?_,h5⟩;have:=AgP h4 hb;rw[show(i+1).toNat=i.toNat+1 from o_,show M+600*(i.toNat+1)=M+600*i.toNat+600 from o_,show R+20*(i.toNat+1)=R+20*i.toNat+20 from o_];exact this
def AaA {p q:HO} {a:FS} {x:L_} {i:Int} (h:fmInv p a x q i) (h0:0<=findMod p.bi a) (hd:(p.bi.getD (findMod p.bi a).toNat default).done=false) (hi:(imports (fillM0 p a x) a).1.length<=i):q=fillModule p a x:=by
 have e:=h.2.2.1;rw[bQ o_] at e;unfold fillModule;rw[F_ (by rintro(q|q);exact absurd q o_;rw[hd] at q;cases q)];exact e
def Mv {p:HO} {k:Int} (h0:0<=k) (h:k<p.bi.length):modRequest p k=⟨5,(p.bi.getD k.toNat default).to,p.addr.host,⟨#[]⟩⟩:=by unfold modRequest;rw[G_ ⟨h0,h⟩]
def AlU {p:HO} {a:FS} {x:L_} (h0:0<=findMod p.bi a):(((p.bi.modify (findMod p.bi a).toNat λz=>(⟨z.to,true,z.code,z.body⟩:X_)).modify (findMod p.bi a).toNat λz=>(⟨z.to,z.done,checkResponse p.bm (modRequest p (findMod p.bi a)) x,z.body⟩:X_)).modify (findMod p.bi a).toNat λz=>(⟨z.to,z.done,z.code,(usable p.bm (modRequest p (findMod p.bi a)) x).1⟩:X_))=(fillM0 p a x).bi:=by
 have hf:=Bu p.bi a;have hi:(findMod p.bi a).toNat<p.bi.length:=o_
 rw[Gm,Gm];show _=p.bi.modify (findMod p.bi a).toNat (fillM p x);rw[BT _ hi,BT _ hi,Mv h0 hf.1];rfl
def fmp (p:HO) (a:FS) (x:L_):(⟨p.addr,p.bm,p.tok,p.bp,p.ended,p.ba,p.bf,(fillM0 p a x).bi,p.bh,p.block,p.inline,p.bo,p.bu,p.ran,p.log,p.loaded⟩:HO)=fillM0 p a x:=rfl
def AlV (p:HO) (a:FS) (x:L_):(fillM0 p a x).bi.length=p.bi.length:=List.length_modify ..
def AaT {p:HO} (h:okAdv p) {k:Int} (h0:0<=k) (hk:k<p.bi.length):Bx (modRequest p k)<=60000000000:=by
 obtain⟨Q,M,R,h1,h2,h3,h4⟩:=h;have hm:szL Ar p.bi<=50000000000:=by have:=h1.2.2.2.1.2.1;unfold modP at this;omega
 have:=Ct Ar (l:=p.bi) (i:=k.toNat) o_;have ha:=h1.2.2.2.2.2.1;have hz:ByteArray.size ⟨#[]⟩=0:=rfl;rw[Mv h0 hk];simp only[Ar,Bx,szAddr,hz] at *;omega
abbrev Hg:Fct:=⟨[.v (.el .page),.v (.el .addr),.v (.el .bd)],[.el .page],λ(x:cN)=>okFM x.1/\szAddr x.2.1<=4000000000/\x.2.2.1.bm.size<=200000000/\x.2.2.1.body.size<=1000000000,λ(x:cN)=>(fillModule x.1 x.2.1 x.2.2.1,())⟩
abbrev A1 (p:HO) (a:FS) (x:L_):LInv:=⟨[⟨.b,7,true,.el .page⟩,⟨.s,12,true,.el .int⟩,⟨.b,6,true,.el .page⟩,⟨.s,10,true,.sl .addr⟩],λ(z x_:bY)=>((fmInv p a x x_.1 x_.2.1)/\x_.2.2.1=z.2.2.1)/\x_.2.2.2.1=z.2.2.2.1,λ(x_:bY)=>(imports (fillM0 p a x) a).1.length-x_.2.1.toNat⟩
def AnH:=AmS.a Hg<|Fct.p (KP [3,4,5,6,7,8,9,10,12] [27,69]) (λ⟨p,a,x,_⟩=>lv [(11,A1 p a x)]) AmS.2 func72 (by
 rintro⟨(p:HO),(a:FS),(x:L_),_⟩ hp;refine ho (let M_:=List X_;.cl AW (p,()) λz2=>let J_:Out:=.lf Hg (z2.1,());.cl LA (p,a,()) λ(z3:E_)=>.br (decide (z3.1<0)) J_ (.ob (inB z3.1 p.bi.length)<|.br ((p.bi.getD z3.1.toNat default).done) J_ (.cl Fu (p,z3.1,()) λz4=>.ix z3.1 z2.1.bi.length<|.lt M_ (z2.1.bi.modify z3.1.toNat λz=>({z with done:=true}:X_)) λz5=>.cl AU (p.bm,z4.1,x,()) λ(z6:E_)=>.ix z3.1 z5.length<|.lt M_ (z5.modify z3.1.toNat λz=>({z with code:=z6.1}:X_)) λz7=>.cl FO (p.bm,z4.1,x,()) λz8=>.ix z3.1 z7.length<|.lt M_ (z7.modify z3.1.toNat λz=>({z with body:=z8.1}:X_)) λz9=>let H_:=({z2.1 with bi:=z9}:HO);.cl FR (H_,a,()) λz10=>lpx (A1 p a x) (H_,((0:Int),(default,(z10.1,())))) λ(y16:bY) bk16=>.br (decide (y16.2.1<(y16.2.2.2.1.length:Int))) (.ix y16.2.1 y16.2.2.2.1.length<|.cl Fh (y16.1,y16.2.2.2.1.getD y16.2.1.toNat default,()) λz11=>.re (Value.int IntKind.i64 z3.1)<|.bk (bk16 (z11.1,(w1 y16.2.1,(y16.2.2.1,(y16.2.2.2.1,())))))) (.lf Hg (y16.1,()))))) ?_;repeat' (guard_target =~ Out.holds _ _;first|refine Aq (li:=A1 p a x) ?_ λ(y16:bY) i16=>?_|refine lfY ?_|refine Aa (λ_=>?_) λ_=>?_|refine Aj ?_ λ_=>?_|refine Ac ?_ λ_=>?_|refine K6 ?_|refine AR ?_|refine An ?_|refine CW ?_ λ_ _=>?_)
 all_goals obtain⟨q1,q0,q2,q3⟩:=(show okFM p/\szAddr a<=4000000000/\x.bm.size<=200000000/\x.body.size<=1000000000 from hp)<;>(have hok:=D1 (EV q1);have hf:=Bu p.bi a;try simp only[AA] at *)<;>(try simp only[std,Nat.reduceAdd,Sr] at *)<;>(first|trivial|omega|skip)<;>(first|(unfold fillModule;rw[G_ (by first|exact .inl ‹_›|exact .inr ‹_›)];done)|skip)<;>have h0:0<=findMod p.bi a:=o_<;>have hd:(p.bi.getD (findMod p.bi a).toNat default).done=false:=‹_›<;>(have hq:=AaT (EV q1) h0 hf.1;have hI:=MM (x:=x) h0;have hA:=RQ (Aar (x:=x) q1 h0 hd) hI.2;have hB:=D1 hA;try simp only[AlU h0,fmp,AlV,List.length_modify] at *)<;>(first|trivial|omega|exact⟨o_,o_,q2,q3⟩|exact⟨o_,hB.2.2.2.2.2,by simp only[szAddr] at q0;omega⟩|exact Aar q1 h0 hd|skip)<;>(obtain⟨⟨i1,e1⟩,e2⟩:=i16;simp only[e2] at *;have hi0:=i1.1;have hi1:=i1.2.1)<;>(first|trivial|omega|(rw[AaA i1 h0 hd o_];done)|skip)<;>(have hj:=D1 (RQ i1 hI.2);have hb:=hI.1 _ (Ae (show y16.2.1.toNat<(imports (fillM0 p a x) a).1.length from o_)))<;>(first|exact⟨o_,by have h7:=hj.2.1;simp only[szAddr] at h7;omega,by simp only[szAddr];omega⟩|(rw[Aw o_];exact⟨⟨⟨AeI i1 h0 o_,e1⟩,trivial⟩,o_⟩)|skip))
def takeAnswer (p:HO) (a:FS) (x:L_):HO:=advance (fillModule (fillAll p a x) a x)
def SZ {p:HO} (h:okFM p) (a:FS) (x:L_):okFM (fillAll p a x):=by
 obtain⟨Q,M,R,h1,h2⟩:=h;have:=MF h1 a x p.bf.length;rw[KU (Y_ _)] at this;exact⟨Q,M,R,this,h2⟩
def Afe {p:HO} (h:okFM p) (a:FS) (x:L_):okAdv (fillModule p a x):=by
 obtain⟨Q,M,R,h1,h2,h3,h4⟩:=h;exact⟨Q,_,_,P9 h1 a x,h2,o_,o_⟩
abbrev Ej:Fct:=⟨[.v (.el .page),.v (.el .addr),.v (.el .bd)],[.el .page],λ(x:cN)=>okFM x.1/\szAddr x.2.1<=4000000000/\x.2.2.1.bm.size<=200000000/\x.2.2.1.body.size<=1000000000,λ(x:cN)=>(takeAnswer x.1 x.2.1 x.2.2.1,())⟩
def AnY:=AnH.a Ej<|Fct.o [3,4,5,6] AnH.2 func33 (by
 rintro⟨(p:HO),(a:FS),(x:L_),_⟩ hp;refine ho (.cl QV (p,a,x,()) λz2=>.cl Hg (z2.1,a,x,()) λz3=>.cl FY (z3.1,()) λz4=>.lf Ej (z4.1,())) ?_;refine Aj ?_ λ_=>(Aj ?_ λ_=>Aj ?_ λ_=>lfY ?_)<;>obtain⟨q1,q0,q2,q3⟩:=(show okFM p/\szAddr a<=4000000000/\x.bm.size<=200000000/\x.body.size<=1000000000 from hp)<;>(try simp only[AA] at *)<;>(try simp only[std,Nat.reduceAdd] at *)<;>(first|exact⟨EV q1,q2,q3⟩|exact⟨SZ q1 a x,q0,q2,q3⟩|exact Afe (SZ q1 a x) a x|rfl|trivial))
def nextNeeds (p:HO):List ay:=(openSlots p).map (slotRequest p)++(openMods p).map (modRequest p)
def Aew {p:HO} {i:Nat} (h:i<(openSlots p).length):0<=(openSlots p).getD i default/\(openSlots p).getD i default<p.bf.length:=by
 have:=Dm (λs:aw=>!s.done) p.bf 0 _ (Ae h);unfold openSlots at *;omega
def Afw {p:HO} {i:Nat} (h:i<(openMods p).length):0<=(openMods p).getD i default/\(openMods p).getD i default<p.bi.length:=by
 have:=Dm (λs:X_=>!s.done) p.bi 0 _ (Ae h);unfold openMods at *;omega
def AaP {α β:Type} [Inhabited α] (f:α->β) {l:List α} {i:Nat} (h:i<l.length):(l.drop i).map f=f (l.getD i default)::(l.drop (i+1)).map f:=by rw[B_ h];rfl
def Th {α β:Type} (f:α->β) {l:List α} {i:Nat} (h:l.length<=i):(l.drop i).map f=[]:=by rw[bQ h];rfl
abbrev Gp:Fct:=⟨[.v (.el .page)],[.sl .request],λ(x:ai)=>x.1.bf.length+x.1.bi.length<=1000000000000,λ(x:ai)=>(nextNeeds x.1,())⟩
abbrev Cp (p:HO):LInv:=⟨[⟨.s,3,true,.sl .request⟩,⟨.s,5,true,.el .int⟩,⟨.b,1,false,.el .page⟩,⟨.s,4,true,.sl .int⟩],λ(z x:bZ)=>((0<=x.2.1/\x.2.1<=(openSlots p).length/\x.1.length<=x.2.1/\x.1++((openSlots p).drop x.2.1.toNat).map (slotRequest p)=(openSlots p).map (slotRequest p))/\x.2.2.1=z.2.2.1)/\x.2.2.2.1=z.2.2.2.1,λ(x:bZ)=>(openSlots p).length-x.2.1.toNat⟩
abbrev Co (p:HO):LInv:=⟨[⟨.s,3,true,.sl .request⟩,⟨.s,7,true,.el .int⟩,⟨.b,1,false,.el .page⟩,⟨.s,6,true,.sl .int⟩],λ(z x:bZ)=>((0<=x.2.1/\x.2.1<=(openMods p).length/\x.1.length<=(openSlots p).length+x.2.1/\x.1++((openMods p).drop x.2.1.toNat).map (modRequest p)=nextNeeds p)/\x.2.2.1=z.2.2.1)/\x.2.2.2.1=z.2.2.2.1,λ(x:bZ)=>(openMods p).length-x.2.1.toNat⟩
def An3:=AnY.a Gp<|Fct.p (KP [1,2,3,4,5,6,7] [14,31]) (λ⟨p,_⟩=>λ|4=>some (Cp p)|9=>some (Co p)|_=>none) AnY.2 func32 (by
 rintro⟨(p:HO),_⟩ hp;refine ho (.cl Ih (p,()) λ(z2:am)=>lpx (Cp p) ([],((0:Int),(p,(z2.1,())))) λ(y2:bZ) bk2=>.br (decide (y2.2.1<(y2.2.2.2.1.length:Int))) (.ix y2.2.1 y2.2.2.2.1.length<|.cl DB (y2.2.2.1,y2.2.2.2.1.getD y2.2.1.toNat default,()) λz3=>.ap (y2.1.length+[z3.1].length) 72<|.bk (bk2 (y2.1++[z3.1],(w1 y2.2.1,(y2.2.2.1,(y2.2.2.2.1,())))))) (.cl JT (y2.2.2.1,()) λ(z4:am)=>lpx (Co p) (y2.1,((0:Int),(y2.2.2.1,(z4.1,())))) λ(y10:bZ) bk10=>.br (decide (y10.2.1<(y10.2.2.2.1.length:Int))) (.ix y10.2.1 y10.2.2.2.1.length<|.cl Fu (y10.2.2.1,y10.2.2.2.1.getD y10.2.1.toNat default,()) λz5=>.ap (y10.1.length+[z5.1].length) 72<|.re (Value.int IntKind.i64 y2.2.1)<|.bk (bk10 (y10.1++[z5.1],(w1 y10.2.1,(y10.2.2.1,(y10.2.2.2.1,())))))) (.lf Gp (y10.1,())))) ?_;refine Aj ?_ λ_=>(Aq ?_ λ(y2:bZ) i2=>Aa (λh3=>CW ?_ λo4 o5=>Aj ?_ λ_=>EG ?_ λ_=>AR ?_) λh3=>Aj ?_ λ_=>Aq ?_ λ(y10:bZ) i10=>Aa (λh11=>CW ?_ λo12 o13=>Aj ?_ λ_=>(EG ?_ λ_=>An<|AR ?_)) λh11=>lfY ?_)<;>(have hl1:(openSlots p).length<=p.bf.length:=Dh _ _ _;have hl2:(openMods p).length<=p.bi.length:=Dh _ _ _;try simp only[AA] at *)<;>(try simp only[std,Nat.reduceAdd] at *)<;>(first|trivial|omega|exact⟨o_,o_,by simp,rfl⟩|skip)<;>(obtain⟨⟨⟨a1,a2,a3,a4⟩,e1⟩,e2⟩:=i2;simp only[e1,e2] at *)<;>(first|trivial|omega|skip)<;>(try obtain⟨⟨⟨b1,b2,b3,b4⟩,f1⟩,f2⟩:=i10;simp only[f1,f2] at *)<;>(first|trivial|omega|skip)<;>(first|(have ho:=Afw (p:=p) (i:=y10.2.1.toNat) o_)|(have ho:=Aew (p:=p) (i:=y2.2.1.toNat) o_)|skip)<;>(first|exact⟨o_,o_,o_⟩|skip)<;>(first|(rw[Th (modRequest p) (l:=openMods p) (i:=y10.2.1.toNat) o_] at b4;rw[cz] at b4;exact b4)|(rw[AaP (modRequest p) (l:=openMods p) (i:=y10.2.1.toNat) o_] at b4;rw[Aw o_,show(y10.2.1+1).toNat=y10.2.1.toNat+1 from o_];exact⟨⟨⟨⟨o_,o_,by simp only[ak,aq,aU];omega,by rw[bF];exact b4⟩,by trivial⟩,by trivial⟩,o_⟩)|(rw[AaP (slotRequest p) (l:=openSlots p) (i:=y2.2.1.toNat) o_] at a4;rw[Aw o_,show(y2.2.1+1).toNat=y2.2.1.toNat+1 from o_];exact⟨⟨⟨⟨o_,o_,by simp only[ak,aq,aU];omega,by rw[bF];exact a4⟩,by trivial⟩,by trivial⟩,o_⟩)|(rw[Th (slotRequest p) (l:=openSlots p) (i:=y2.2.1.toNat) o_] at a4;rw[cz] at a4;exact⟨o_,o_,o_,by rw[a4];rfl⟩)|skip))
def busyOf (l:List ao):List FS:=l.map λc=>c.to
abbrev Ah4:Fct:=⟨[.v (.sl .conn)],[.sl .addr],λ(x:eE)=>x.1.length<=1048576,λ(x:eE)=>(busyOf x.1,())⟩
abbrev D9 (l:(List ao)):LInv:=⟨[⟨.s,3,true,.sl .addr⟩,⟨.s,4,true,.el .int⟩],λ_ (x:dS)=>0<=x.2.1/\x.2.1<=l.length/\x.1.length<=x.2.1/\x.1++busyOf (l.drop x.2.1.toNat)=busyOf l,λ(x:dS)=>l.length-x.2.1.toNat⟩
def Amg:=An3.a Ah4<|Fct.p (KP [0,2,3,4] [9]) (λ⟨l,_⟩=>lv [(3,D9 l)]) An3.2 func173 (by
 rintro⟨(l:List ao),_⟩ hp;refine ho (lpx (D9 l) ([],((0:Int),())) λ(y1:dS) bk1=>.br (decide (y1.2.1<(l.length:Int))) (.ob (inB y1.2.1 l.length)<|.ap (y1.1.length+[(l.getD y1.2.1.toNat default).to].length) 32<|.re (l)<|.bk (bk1 (y1.1++[(l.getD y1.2.1.toNat default).to],(w1 y1.2.1,())))) (.lf Ah4 (y1.1,()))) ?_;refine Aq ?_ λ(y1:dS) i1=>Aa (λh2=>Ac ?_ λ_=>EG ?_ λ_=>An<|AR ?_) (λh2=>lfY ?_)<;>(try simp only[AA] at *)<;>(try simp only[std,Nat.reduceAdd,busyOf] at *)<;>(first|trivial|omega|skip)<;>(obtain⟨a1,a2,a3,a4⟩:=i1)<;>(first|(rw[Th (λc:ao=>c.to) (l:=l) (i:=y1.2.1.toNat) o_,cz] at a4;exact a4)|(rw[AaP (λc:ao=>c.to) (l:=l) (i:=y1.2.1.toNat) o_] at a4;rw[Aw o_,show(y1.2.1+1).toNat=y1.2.1.toNat+1 from o_];exact⟨⟨o_,o_,by simp only[ak,aq,aU];omega,by rw[bF];exact a4⟩,o_⟩)))
def reqNeeds (l:O_):List ay:=withoutAddrs (busyOf l.conns) (nextNeeds l.page)
def reqPick (l:O_):Int:=pickReq l.page (reqNeeds l) 0 (-1) 0
def reqTo (l:O_):FS:=((reqNeeds l).getD (reqPick l).toNat default).to
def requestNext (l:O_):O_×Bool :=
 if reqPick l<0 then(l,false)
 else if(useGuess l.guesses (reqTo l)).2.2=true then
  ({ l with guesses:=(useGuess l.guesses (reqTo l)).1,net:=keepAnswer l.net l.page.addr.host (reqTo l) (useGuess l.guesses (reqTo l)).2.1,page:=takeAnswer l.page (reqTo l) (useGuess l.guesses (reqTo l)).2.1 },true)
 else if 3<=l.conns.length then(l,false)
 else({ l with net:=(fetchNow l.net l.page.addr.host (reqTo l) false).1,conns:=(openConn l.conns (reqTo l) (fetchNow l.net l.page.addr.host (reqTo l) false).2 false).1 },true)
def okGs (l:List aZ):Prop:=∀ g,g∈l->Ab g.bd<=1048576
def okCs (l:List ao):Prop:=∀ c,c∈l->Ab c.bd<=1048576/\szAddr c.to<=4000000
def okTo (p:HO):Prop:=(∀ s,s∈p.bf->szAddr s.to<=4000000)/\∀ m,m∈p.bi->szAddr m.to<=4000000
def okRN (l:O_):Prop:=((okFM l.page/\okTo l.page/\l.parts.length<=1000000000)/\-9223372036854775808<=l.page.block/\l.page.block<=9223372036854775807/\l.page.bf.length+l.page.bi.length<=1000000000000)/\(l.conns.length<=1048576/\okCs l.conns)/\(l.guesses.length<=4194304/\okGs l.guesses)/\okNt l.net
def JZ (p:HO):(nextNeeds p).length<=p.bf.length+p.bi.length:=by
 have h1:(openSlots p).length<=p.bf.length:=Dh _ _ _;have h2:(openMods p).length<=p.bi.length:=Dh _ _ _;unfold nextNeeds;rw[ak,cC,cC];omega
def Qj {d:List FS} {r:ay}:∀ {l:List ay},r∈withoutAddrs d l->r∈l
 | [],h=>h
 | x::l,h=>by
  rw[withoutAddrs] at h;split at h
  ·exact cT _ (Qj h)
  ·rcases ah.1 h with q|q
   ·rw[q];exact cW
   ·exact cT _ (Qj q)
def VO {p:HO} {r:ay} (h:r∈nextNeeds p):(∃ s,s∈p.bf/\r.to=s.to)\/∃ m,m∈p.bi/\r.to=m.to:=by
 unfold nextNeeds at h;rcases ae.1 h with q|q
 ·obtain⟨k,hk,rfl⟩:=bG.1 q;have:=Dm (λs:aw=>!s.done) p.bf 0 k hk;left;refine⟨p.bf.getD k.toNat default,Ae o_,?_⟩;unfold slotRequest;rw[G_ o_]
 ·obtain⟨k,hk,rfl⟩:=bG.1 q;have:=Dm (λm:X_=>!m.done) p.bi 0 k hk;right;refine⟨p.bi.getD k.toNat default,Ae o_,?_⟩;rw[Mv o_ o_]
def Il (p:HO):∀ (l:List ay) (i b c:Int),-1<=b->b<i->-1<=pickReq p l i b c/\pickReq p l i b c<i+l.length
 | [],i,b,c,h1,h2=>by
  rw[pickReq];simp only[aU];omega
 | r::l,i,b,c,h1,h2=>by
  rw[pickReq,aq];split
  ·have:=Il p l (i+1) i (classOf p r) o_ o_;omega
  ·have:=Il p l (i+1) b c h1 o_;omega
def rn1 (l:O_):withoutAddrs (busyOf l.conns) (nextNeeds l.page)=reqNeeds l:=rfl
def rn2 (l:O_):pickReq l.page (reqNeeds l) 0 (-1) 0=reqPick l:=rfl
def rn3 (l:O_):((reqNeeds l).getD (reqPick l).toNat default).to=reqTo l:=rfl
def Akv (l:O_) : -1<=reqPick l/\reqPick l<(reqNeeds l).length:=by
 have:=Il l.page (reqNeeds l) 0 (-1) 0 o_ o_;unfold reqPick;omega
def AkB {l:O_} (h:okTo l.page) (h0:0<=reqPick l):szAddr (reqTo l)<=4000000:=by
 have hi:=(Akv l).2;have hm:(reqNeeds l).getD (reqPick l).toNat default∈nextNeeds l.page:=Qj (Ae (show(reqPick l).toNat<(reqNeeds l).length from o_));unfold reqTo;rcases VO hm with⟨s,hs,e⟩|⟨m,hm2,e⟩
 ·rw[e];exact h.1 s hs
 ·rw[e];exact h.2 m hm2
def Ahv {l:List aZ} {a:FS} (h:okGs l):Ab (useGuess l a).2.1<=1048576:=by
 unfold useGuess;split
 ·exact(show Ab notFound<=1048576 by decide)
 ·rename_i hc;have hf:=BP (λg:aZ=>decide (g.to=a)) l 0 o_;have:(findGuess l a).toNat<l.length:=by unfold findGuess at *;omega
  exact h _ (Ae this)
abbrev EA:Fct:=⟨[.v (.el .loader)],[.el .loader,.el .bool],λ(x:ct)=>okRN x.1,λ(x:ct)=>((requestNext x.1).1,(requestNext x.1).2,())⟩
def Amr:=Amg.a EA<|Fct.o (KP [1,2,3,4,5,6,7,8,9,10,11,12,13] [28,47,67]) Amg.2 func133 (by
 rintro⟨(l:O_),_⟩ hp;refine ho (.cl CJ (l,()) λz2=>let J_:Out:=.lf EA (z2.1,false,());.cl Gp (l.page,()) λz3=>.cl Ah4 (l.conns,()) λz4=>.cl GQ (z3.1,z4.1,()) λz5=>.cl Hy (l.page,z5.1,()) λ(z6:E_)=>let H_:=z5.1.getD z6.1.toNat default;.br (decide (z6.1<0)) J_ (.ix z6.1 z5.1.length<|.cl Kd (l.guesses,H_.to,()) λz7=>.br (z7.2.2.1) (.cl Cd (l.net,l.page.addr.host,H_.to,z7.2.1,()) λz8=>.cl Ej (l.page,H_.to,z7.2.1,()) λz9=>.lf EA (⟨z8.1,z9.1,z2.1.parts,z2.1.conns,z7.1⟩,true,())) (.br (decide ((l.conns.length:Int)>=3)) J_ (.cl Bw (l.net,l.page.addr.host,H_.to,false,()) λz10=>.cl Yy (l.conns,H_.to,z10.2.1,false,()) λz11=>.lf EA ({z2.1 with net:=z10.1,conns:=z11.1},true,()))))) ?_;repeat' (guard_target =~ Out.holds _ _;first|refine lfY ?_|refine Aa (λ_=>?_) λ_=>?_|refine Aj ?_ λ_=>?_|refine CW ?_ λ_ _=>?_)
 all_goals obtain⟨⟨⟨q1,qt,qp⟩,q2,q3,q4⟩,⟨q5,q6⟩,⟨q7,q8⟩,q9⟩:=(show okRN l from hp)<;>(have hok:=D1 (EV q1);have hh:l.page.addr.host.size<=4000000:=by have:=hok.2.1;simp only[szAddr] at this;omega)<;>(have hn:=JZ l.page;have hb:(busyOf l.conns).length=l.conns.length:=cC ..;have hw:=LB (busyOf l.conns) (nextNeeds l.page);have hk:=Akv l;have ht:=λh=>AkB (l:=l) qt h)<;>(have hu:=Ahv (a:=reqTo l) q8;have hf:=Gy (t:=l.page.addr.host) (a:=reqTo l) (g:=false) q9)<;>obtain⟨n1,n2,n3,n4⟩:=q9<;>(try simp only[AA] at *)<;>(try simp only[std,Nat.reduceAdd,rn1,rn2,rn3] at *)<;>(first|trivial|omega|skip)<;>(first|exact⟨o_,o_,o_,o_,o_⟩|exact⟨o_,o_⟩|exact⟨o_,⟨o_,o_⟩,o_⟩|skip)<;>(have hs1:(useGuess l.guesses (reqTo l)).2.1.body.size+(useGuess l.guesses (reqTo l)).2.1.bm.size<=1048576:=hu;have hs2:(fetchNow l.net l.page.addr.host (reqTo l) false).2.body.size+(fetchNow l.net l.page.addr.host (reqTo l) false).2.bm.size<=1048576:=hf)<;>(first|exact⟨q1,o_,o_,o_⟩|exact⟨o_,o_⟩|skip)<;>unfold requestNext<;>(first|(rw[G_ ‹_›];exact⟨rfl,rfl⟩)|(rw[F_ o_]))<;>(first|(rw[G_ ‹_›];exact⟨rfl,rfl⟩)|(rw[F_ (by rw[show(useGuess l.guesses (reqTo l)).2.2=false from ‹_›];decide)]))<;>(first|(rw[G_ o_];exact⟨rfl,rfl⟩)|(rw[F_ o_];exact⟨rfl,rfl⟩)|skip))
def F2 (p:HO) (m:Int) (to d:ByteArray) (n:Int):(addSlot p m to d n).1.addr=p.addr:=by unfold addSlot;split<;>rfl
def VQ (p:HO) (a:FS):(askModule p a).addr=p.addr:=by unfold askModule;split<;>rfl
def PP (p:HO) (to:ByteArray):(addEntry p to).addr=p.addr:=by
 unfold addEntry;split
 ·exact VQ p _
 ·rfl
def SW (p:HO) (t:af) (n:Int):(element p t n).addr=p.addr:=by
 unfold element;split
 ·exact F2 ..
 ·split
  ·exact F2 ..
  ·rfl
def TY (p:HO) (n:Int):(script p n).addr=p.addr:=by
 unfold script;split
 ·split<;>rfl
 ·split
  ·exact F2 ..
  ·split
   ·exact PP ..
   ·exact F2 p ..
def Wa (p:HO) (s:ByteArray):(say p s).addr=p.addr:=by unfold say;split<;>rfl
def Hp (p:HO) (c:ByteArray) (w:Bool):(runCode p c w).addr=p.addr:=by unfold runCode;split<;>rfl
def N5 (p:HO):(takeToken p).1.addr=p.addr:=by
 unfold takeToken;split
 ·rfl
 ·show(takeTok p _).addr=_;unfold takeTok;split
  ·exact SW _ _ _
  ·split
   ·exact TY _ _
   ·rfl
def Tp (p:HO):(stepParser p).1.addr=p.addr:=by
 unfold stepParser;split
 ·unfold stepInline;split
  ·exact Hp _ _ _
  ·rfl
 ·split
  ·unfold stepBlock;split
   ·rfl
   ·split
    ·rfl
    ·split
     ·exact Hp _ _ _
     ·rfl
  ·exact N5 p
def Ke (p:HO):∀ (l:List FS) (q:HO),(enterAll p q l).addr=q.addr
 | [],q=>rfl
 | b::l,q=>by have:=Ke p l (enter1 p q b);refine this.trans ?_;unfold enter1;split<;>rfl
def Xa (p:HO) (a:FS):(enter p a).addr=p.addr:=by
 unfold enter;split
 ·exact Wa _ _
 ·exact Ke p _ p
def Acy (p:HO):(stepTail p).1.addr=p.addr:=by
 unfold stepTail;split
 ·rfl
 ·split
  ·unfold tailDefer;split
   ·rfl
   ·split
    ·exact Hp _ _ _
    ·rfl
  ·split
   ·unfold tailEnter;split
    ·rfl
    ·exact Xa _ _
   ·split
    ·rfl
    ·exact Wa _ _
def Pw:∀ (n:Nat) (p:HO),(adv n p).addr=p.addr
 | 0,p=>rfl
 | n+1,p=>by
  rw[adv];split
  ·refine(Pw n _).trans ?_;unfold step1;split
   ·exact Tp p
   ·exact Acy p
  ·rfl
def Rw:∀ (l:List FS) (p:HO),(l.foldl askModule p).addr=p.addr
 | [],p=>rfl
 | b::l,p=>(Rw l (askModule p b)).trans (VQ p b)
def IU (p:HO) (a:FS) (x:L_):(takeAnswer p a x).addr=p.addr:=by
 refine(Pw 2000 _).trans ?_;unfold fillModule;split
 ·rfl
 ·exact Rw _ _
def needsTo (p:HO) (a:FS):Bool:=(nextNeeds p).any λr=>decide (r.to=a)
def finishC (l:O_) (c:ao):O_ :=
 if needsTo l.page c.to=true then(if c.guess=true then{ l with net:=keepAnswer l.net l.page.addr.host c.to c.bd,page:=takeAnswer l.page c.to c.bd } else{ l with page:=takeAnswer l.page c.to c.bd })
 else if c.guess=true then{ l with guesses:=(addGuess l.guesses c.to c.bd).1 } else l
def finish1 (l:O_) (k:Int):O_:=finishC { l with conns:=closeConn l.conns k } (l.conns.getD k.toNat default)
def okFin (l:O_):Prop:=(okFM l.page/\l.page.bf.length+l.page.bi.length<=1000000000000)/\(l.conns.length<=1048576/\okCs l.conns)/\l.guesses.length<=4194304/\szNet l.net<=10000000000/\szCache l.net.cache<=90000000
def Ahr {α:Type} [Inhabited α] (f:α->Bool) {l:List α} {i:Nat} (h:i<l.length):(l.drop i).any f=(f (l.getD i default)||(l.drop (i+1)).any f):=by rw[B_ h];rfl
def Aei {α:Type} (f:α->Bool) {l:List α} {i:Nat} (h:l.length<=i):(l.drop i).any f=false:=by rw[bQ h];rfl
abbrev HS:GS:=⟨[.g (.el .loader),.l (.v (.el .int))],[.el .loader],λ(x:ca)=>okFin x.1/\0<=x.2.1/\x.2.1<x.1.conns.length,λ(x:ca)=>((finish1 x.1 x.2.1,()),(()))⟩
abbrev BD (l:O_) (k:Int):LInv:=⟨[⟨.s,7,true,.el .int⟩,⟨.b,2,true,.el .loader⟩,⟨.b,4,true,.el .loader⟩,⟨.b,5,true,.el .conn⟩,⟨.s,6,true,.sl .request⟩],λ_ (x:dT)=>x.2.1={ l with conns:=closeConn l.conns k }/\x.2.2.2.1=l.conns.getD k.toNat default/\x.2.2.2.2.1=nextNeeds l.page/\0<=x.1/\x.1<=(nextNeeds l.page).length/\((nextNeeds l.page).drop x.1.toNat).any (λr=>decide (r.to=(l.conns.getD k.toNat default).to))=needsTo l.page (l.conns.getD k.toNat default).to,λ(x:dT)=>(nextNeeds l.page).length-x.1.toNat⟩
def AnN:=Amr.G HS<|GS.of (S:=HS) (L:=λ⟨l,k,_⟩=>λ|5=>some (BD l k)|_=>none) (kp:=(KP [1,2,4,5,6,7] [24,34,36,59])) Amr.2 func184 k_ k_ (by
 rintro⟨(l:O_),(k:Int),_⟩ hp;refine ho (.ix k l.conns.length<|.cl If (l.conns,k,()) λz2=>.cl Gp (l.page,()) λz3=>lpx (BD l k) ((0:Int),(({l with conns:=z2.1}:O_),(default,(l.conns.getD k.toNat default,(z3.1,()))))) λ(y5:dT) bk5=>let H_:=y5.2.2.2.2.1.getD y5.1.toNat default;.br (decide (y5.1<(y5.2.2.2.2.1.length:Int))) (.ix y5.1 y5.2.2.2.2.1.length<|.br (H_.to.host==y5.2.2.2.1.to.host&&(H_.to.path==y5.2.2.2.1.to.path&&true)) (.br (y5.2.2.2.1.guess) (.cl Cd (y5.2.1.net,y5.2.1.page.addr.host,y5.2.2.2.1.to,y5.2.2.2.1.bd,()) λz4=>.cl Ej (y5.2.1.page,y5.2.2.2.1.to,y5.2.2.2.1.bd,()) λz5=>GS.out HS (({y5.2.1 with net:=z4.1,page:=z5.1},()),(()))) (.cl Ej (y5.2.1.page,y5.2.2.2.1.to,y5.2.2.2.1.bd,()) λz6=>GS.out HS (({y5.2.1 with page:=z6.1},()),(())))) (.re (Value.int IntKind.i64 k)<|.bk (bk5 (w1 y5.1,(y5.2.1,(y5.2.2.1,(y5.2.2.2.1,(y5.2.2.2.2.1,())))))))) (.br (y5.2.2.2.1.guess) (.cl HR (y5.2.1.guesses,y5.2.2.2.1.to,y5.2.2.2.1.bd,()) λz7=>GS.out HS (({y5.2.1 with guesses:=z7.1},()),(()))) (GS.out HS ((y5.2.1,()),(()))))) ?_;repeat' (guard_target =~ Out.holds _ _;first|refine Aq (li:=BD l k) ?_ λ(y5:dT) i5=>?_|refine GS.leafY ?_|refine Aa (λ_=>?_) λ_=>?_|refine Aj ?_ λ_=>?_|refine AR ?_|refine An ?_|refine CW ?_ λ_ _=>?_)
 all_goals obtain⟨⟨⟨q1,q2⟩,⟨q3,q4⟩,q5,q6,q7⟩,q8,q9⟩:=(show okFin l/\0<=k/\k<l.conns.length from hp)<;>(try simp only[AA] at *)<;>(try simp only[std,Nat.reduceAdd] at *)<;>(first|trivial|omega|exact⟨o_,o_,rfl⟩|skip)<;>(have hc:=q4 _ (Ae (show k.toNat<l.conns.length from o_));have hc1:(l.conns.getD k.toNat default).bd.body.size+(l.conns.getD k.toNat default).bd.bm.size<=1048576:=hc.1;have hok:=D1 (EV q1);have hn:=JZ l.page;have hh:l.page.addr.host.size<=4000000:=by have:=hok.2.1;simp only[szAddr] at this;omega)<;>(obtain⟨e1,e2,e3,a1,a2,a3⟩:=i5;simp only[e1,e2,e3,De,av,cy] at *)<;>(first|trivial|omega|exact⟨o_,o_,o_,o_,o_⟩|exact⟨q1,o_,o_,o_⟩|skip)<;>(first|(have e:=Ahr (λr:ay=>decide (r.to=(l.conns.getD k.toNat default).to)) (l:=nextNeeds l.page) (i:=y5.1.toNat) o_)|(have e:=Aei (λr:ay=>decide (r.to=(l.conns.getD k.toNat default).to)) (l:=nextNeeds l.page) (i:=y5.1.toNat) o_))<;>rw[a3] at e<;>(first|(rw[show decide (((nextNeeds l.page).getD y5.1.toNat default).to=(l.conns.getD k.toNat default).to)=false from ey ‹_›,Bool.false_or] at e;rw[Aw o_,show(y5.1+1).toNat=y5.1.toNat+1 from o_];exact⟨⟨trivial,trivial,trivial,o_,o_,e.symm⟩,o_⟩)|skip)<;>(first|(rw[show decide (((nextNeeds l.page).getD y5.1.toNat default).to=(l.conns.getD k.toNat default).to)=true from bR ‹_›,Bool.true_or] at e)|skip)<;>(first|(have hg:(l.conns.getD k.toNat default).guess=true:=by assumption)|(have hg:(l.conns.getD k.toNat default).guess=false:=by assumption)|skip)<;>(unfold finish1 finishC;dsimp only;simp only[e,hg,cD,aC,aP]))
def FL {s:ByteArray} (h:isName s=true):s.size<=8:=by
 unfold isName at h;simp only[S_,av] at h;exact h.2.2
def Abb (p:aQ):(formatPolicy p).size<=300:=by
 unfold formatPolicy;split
 ·rename_i h;simp only[S_] at h;obtain⟨a1,a2,a3,a4,a5,a6,a7⟩:=FW h.1 h.2;have b1:=GY p.bt ⟨#[115,99,114,105,112,116]⟩ a1;have b2:=GY p.styles ⟨#[115,116,121,108,101]⟩ a3;have b3:=GY p.images ⟨#[105,109,103]⟩ a5;have c1:(⟨#[115,99,114,105,112,116]⟩:ByteArray).size=6:=rfl;have c2:(⟨#[115,116,121,108,101]⟩:ByteArray).size=5:=rfl;have c3:(⟨#[105,109,103]⟩:ByteArray).size=3:=rfl;have c4:(⟨#[59]⟩:ByteArray).size=1:=rfl;have c5:(⟨#[59,110,111,110,99,101,32]⟩:ByteArray).size=7:=rfl;split<;>(simp only[aN];omega)
 ·exact Nat.zero_le _
def Kb {x:L_} (h:isResponse x=true):Ab x<=700:=by
 unfold isResponse at h;simp only[S_,av] at h;obtain⟨_,_,h1,_,h2⟩:=h;have h3:x.bm.size<=300:=by
  unfold parsePolicy at h2;split at h2
  ·rename_i e;rw[e];exact Nat.zero_le _
  ·split at h2
   ·rename_i e;rw[<-e.2];exact Abb _
   ·cases h2
 simp only[Ab];omega
def V3 {all:List ce}:∀ {l:List ce} {k:Int},entOk all l k=true->szL Bh l<=800*l.length
 | [],_,_=>Y_ _
 | e::l,k,h=>by simp only[entOk,S_] at h;obtain⟨⟨⟨⟨⟨h1,h2,h3⟩,h4⟩,_⟩,_⟩,h5⟩:=h;have a1:=FL h1;have a2:=FL h2;have a3:=FL h3;have a4:=Kb h4;have a5:=V3 h5;rw[Ah,aq];simp only[Bh,szAddr];omega
def X0 {c:bD} (h:isCache c=true):szCache c<=80000:=by
 unfold isCache at h;simp only[S_,av] at h;have:=V3 h.1;simp only[szCache];omega
def JL (c:bD) (t:ByteArray) (a:FS) (x:L_) (now:Int) {B:Nat} (h:szCache c<=B) (hB:80000<=B):szCache (storeEntry c t a x now)<=B:=by
 unfold storeEntry;split
 ·rename_i q;exact aR (X0 q.2.2.2) hB
 ·exact h
def okNk (n:N_):Prop:=szNet n<=szCache n.cache+9000000000/\szCache n.cache<=90000000
def keep_okNk {n:N_} (h:okNk n) (t:ByteArray) (a:FS) (x:L_):okNk (keepAnswer n t a x):=by
 unfold keepAnswer;split
 ·have:=JL n.cache t a x n.now h.2 o_;refine⟨?_,this⟩;have h1:=h.1;simp only[szNet] at *;omega
 ·exact h
def wB (x:L_):Nat:=min 400 x.body.size
def wCs (l:List ao):Nat:=(l.map λc=>wB c.bd).sum
def Abi (p:aQ) (r:ay) (x:L_):(usable p r x).1.size<=wB x:=by
 have h1:=JN p r x;have h2:(usable p r x).1.size<=x.body.size:=by
  unfold usable;split
  ·exact Y_ _
  ·exact Nat.zero_le _
 unfold wB;omega
def NW {p:HO} {Q M R:Nat} (h:okAll p Q M R) (a:FS) (x:L_):okAll (fillModule p a x) Q (M+600*wB x) (R+20*wB x):=by
 have mono:∀ {q:HO} {M' R':Nat},okAll q Q M' R'->M'<=M+600*wB x->R'<=R+20*wB x->okAll q Q (M+600*wB x) (R+20*wB x):=λh hM hR=>by obtain⟨h1,h2,h3,⟨h4,h5,h6,h7⟩,h8⟩:=h;exact⟨h1,h2,h3,⟨h4,o_,o_,h7⟩,h8⟩
 unfold fillModule;split
 ·exact mono h o_ o_
 ·rename_i hc;have h0:0<=findMod p.bi a:=o_
  have hd:(p.bi.getD (findMod p.bi a).toNat default).done=false:=by
   cases hq:(p.bi.getD (findMod p.bi a).toNat default).done with
   | false=>rfl
   | true=>exact absurd (.inr hq) hc
  obtain⟨i1,_⟩:=MM (x:=x) h0;have i2:(imports (fillM0 p a x) a).1.length<=wB x:=by
   obtain⟨_,h2⟩:=Dw (fillM0 p a x) a;obtain⟨f1,f2⟩:=FN p a x h0;rw[f1,f2] at h2;rcases h2 with h2|⟨_,h2⟩
   ·rw[h2];exact Nat.zero_le _
   ·exact aR h2 (Abi ..)
  exact mono (TK _ _ M R (Np h a x h0 hd) i1) o_ o_
def Ie {p:HO} {Q M R:Nat} (h:okAll p Q M R) (a:FS) (x:L_):okAll (takeAnswer p a x) (Q+740000) (M+600*wB x) (R+20*wB x):=by
 have:=MF h a x p.bf.length;rw[KU (Y_ _)] at this;exact OQ (NW this a x)
def okPot (l:O_):Prop:=∃ Q M R,okAll l.page Q M R/\Q+740000*l.conns.length<=899000000000/\M+600*wCs l.conns<=49000000000/\R+20*wCs l.conns<=19000000000
def okT (l:O_):Prop:=okPot l/\(okCs l.conns/\l.conns.length<=1048576/\l.guesses.length+l.conns.length<=4194304)/\okNk l.net
def AaW {l:O_} (h:okT l):okFin l:=by
 obtain⟨⟨Q,M,R,h1,h2,h3,h4⟩,⟨h5,h6a,h6⟩,h7,h8⟩:=h;have hf:okFM l.page:=⟨Q,M,R,h1,o_,o_,o_⟩;have hp:=D1 (EV hf);exact⟨⟨hf,o_⟩,⟨o_,h5⟩,o_,o_,h8⟩
def Ia {l:List ao} {k:Int} (h0:0<=k) (h:k<l.length):closeConn l k=l.take k.toNat++l.drop (k.toNat+1):=by unfold closeConn;rw[G_ ⟨h0,h⟩]
def JI {l:List ao} {k:Int} (h0:0<=k) (h:k<l.length):(closeConn l k).length+1=l.length:=by
 rw[Ia h0 h,ak,cX,fP];omega
def SO {l:List ao} {k:Int} (h0:0<=k) (h:k<l.length):wCs (closeConn l k)+wB (l.getD k.toNat default).bd=wCs l:=by
 have e:l.take k.toNat++l.getD k.toNat default::l.drop (k.toNat+1)=l:=by rw[<-B_ (show k.toNat<l.length from o_),di]
 have g:wCs (l.take k.toNat++l.getD k.toNat default::l.drop (k.toNat+1))=wCs l:=by rw[e]
 rw[Ia h0 h];unfold wCs at *
 simp only[fG,bz,List.sum_append,List.sum_cons] at *
 omega
def Vk {l:List ao} {k:Int} (h0:0<=k) (h:k<l.length) (ho:okCs l):okCs (closeConn l k):=by
 rw[Ia h0 h];intro c hc;rcases ae.1 hc with q|q
 ·exact ho c (fH q)
 ·exact ho c (fC q)
def V9 (l:List aZ) (a:FS) (x:L_):(addGuess l a x).1.length<=l.length+1:=by
 unfold addGuess;split
 ·exact Nat.le_succ _
 ·simp only[ak,aq,aU];omega
def Y3 (l:O_) (k:Int):(finish1 l k).conns=closeConn l.conns k:=by
 unfold finish1 finishC;split
 ·split<;>rfl
 ·split<;>rfl
def Af1 {l:O_} {k:Int} (h:okT l) (h0:0<=k) (hk:k<l.conns.length):okT (finish1 l k):=by
 obtain⟨⟨Q,M,R,h1,h2,h3,h4⟩,⟨h5,h6a,h6⟩,h7⟩:=h;have c1:=JI h0 hk;have c2:=SO h0 hk;have c3:=Vk h0 hk h5;have ha:=Ie h1 (l.conns.getD k.toNat default).to (l.conns.getD k.toNat default).bd;have hg:=V9 l.guesses (l.conns.getD k.toNat default).to (l.conns.getD k.toNat default).bd;unfold finish1 finishC;dsimp only;split
 ·split
  ·exact⟨⟨_,_,_,ha,by dsimp only;omega,by dsimp only;omega,by dsimp only;omega⟩,⟨c3,by dsimp only;omega,by dsimp only;omega⟩,keep_okNk h7 _ _ _⟩
  ·exact⟨⟨_,_,_,ha,by dsimp only;omega,by dsimp only;omega,by dsimp only;omega⟩,⟨c3,by dsimp only;omega,by dsimp only;omega⟩,h7⟩
 ·split
  ·exact⟨⟨_,_,_,h1,by dsimp only;omega,by dsimp only;omega,by dsimp only;omega⟩,⟨c3,by dsimp only;omega,by dsimp only;omega⟩,h7⟩
  ·exact⟨⟨_,_,_,h1,by dsimp only;omega,by dsimp only;omega,by dsimp only;omega⟩,⟨c3,by dsimp only;omega,by dsimp only;omega⟩,h7⟩
def CI:∀ (l:List ao) (z:Int),0<=z->-1<=firstDone l z/\firstDone l z<z+l.length/\(firstDone l z<0\/z<=firstDone l z)
 | [],z,h=>by
  rw[firstDone,aU];omega
 | c::l,z,h=>by have:=CI l (z+1) o_;rw[firstDone,aq];split<;>omega
def xfer:Nat->O_->O_
 | 0,l=>l
 | n+1,l=>if firstDone l.conns 0<0 then l else xfer n (finish1 l (firstDone l.conns 0))
def Abw {l:O_} (h:firstDone l.conns 0<0):∀ n,xfer n l=l
 | 0=>rfl
 | n+1=>by rw[xfer,G_ h]
def Aie {l:O_} {n:Nat} (h:0<=firstDone l.conns 0):xfer (n+1) l=xfer n (finish1 l (firstDone l.conns 0)):=by rw[xfer,F_ o_]
def moved (l:O_) (b:Int):O_:={ l with conns:=moveConns l.conns b }
def transfer (l:O_) (b:Int):O_×Bool:=if l.conns.length=0\/inRange b 1 1000=false then(l,false) else(xfer l.conns.length (moved l b),true)
def Agr (l:List ao) (b:Int):wCs (moveConns l b)=wCs l:=by
 unfold moveConns;split
 ·unfold wCs;rw[ee];rfl
 ·rfl
def Acv {l:List ao} (b:Int) (h:okCs l):okCs (moveConns l b):=by
 unfold moveConns;split
 ·intro c hc;obtain⟨d,hd,rfl⟩:=bG.1 hc;exact h d hd
 ·exact h
def Afn {l:O_} (h:okT l) (b:Int):okT (moved l b):=by
 obtain⟨⟨Q,M,R,h1,h2,h3,h4⟩,⟨h5,h6a,h6⟩,h7⟩:=h;have e1:=DX l.conns b;have e2:=Agr l.conns b;unfold moved;exact⟨⟨Q,M,R,h1,by dsimp only;omega,by dsimp only;omega,by dsimp only;omega⟩,⟨Acv b h5,by dsimp only;omega,by dsimp only;omega⟩,h7⟩
def xInv (l0 l:O_) (n:Nat):Prop:=okT l/\l.conns.length<=n/\xfer n l=l0
def Aai {l0 l:O_} {n:Nat} (h:xInv l0 l (n+1)) (h0:0<=firstDone l.conns 0):xInv l0 (finish1 l (firstDone l.conns 0)) n:=by
 obtain⟨h1,h2,h3⟩:=h;have hd:=CI l.conns 0 o_;rw[Aie h0] at h3;have hl:=JI h0 (show firstDone l.conns 0<l.conns.length from o_);exact⟨Af1 h1 h0 o_,by rw[Y3];omega,h3⟩
def ZB {l0 l:O_} {n:Nat} (h:xInv l0 l n) (h0:firstDone l.conns 0<0):l=l0:=by
 have:=h.2.2
 rwa [Abw h0] at this
def okTr (l:O_):Prop:=okT l/\l.parts.length<=1000000000
def PB {l:O_} (h:okT l) (hp:l.parts.length<=1000000000):szNet l.net<=68719476736/\Al l.page<=1099511627776/\l.parts.length<=1000000000/\l.conns.length<=1048576/\l.guesses.length<=4194304:=by
 have hf:=AaW h;have hq:=D1 (EV hf.1.1);exact⟨by have:=hf.2.2.2.1;omega,o_,hp,hf.2.1.1,hf.2.2.1⟩
def AkR {l:O_} {b:Int} (h:l.conns.length=0\/inRange b 1 1000=false):transfer l b=(l,false):=by unfold transfer;rw[G_ h]
def Ak6 {l:O_} {b:Int} (h1:¬ l.conns.length=0) (h2:inRange b 1 1000=true):transfer l b=(xfer l.conns.length (moved l b),true):=by
 unfold transfer;rw[F_ (by rintro(q|q);exact h1 q;rw[h2] at q;cases q)]
def Ak4 {l:O_} (h:okT l) (b:Int):xInv (xfer l.conns.length (moved l b)) { net:=l.net,page:=l.page,parts:=l.parts,conns:=moveConns l.conns b,guesses:=l.guesses } l.conns.length:=⟨Afn h b,Nat.le_of_eq (DX l.conns b),rfl⟩
abbrev FB:Fct:=⟨[.v (.el .loader),.v (.el .int)],[.el .loader,.el .bool],λ(x:ca)=>okTr x.1,λ(x:ca)=>((transfer x.1 x.2.1).1,(transfer x.1 x.2.1).2,())⟩
abbrev CC (l:O_) (b:Int):LInv:=⟨[⟨.b,6,true,.el .loader⟩,⟨.s,7,true,.el .int⟩,⟨.b,2,false,.el .loader⟩,⟨.b,4,true,.el .loader⟩],λ(z x:dU)=>((0<=x.2.1/\x.2.1<=l.conns.length/\xInv (xfer l.conns.length (moved l b)) x.1 (l.conns.length-x.2.1.toNat))/\x.2.2.1=z.2.2.1)/\x.2.2.2.1=z.2.2.2.1,λ(x:dU)=>l.conns.length-x.2.1.toNat⟩
def An5:=AnN.a FB<|Fct.p (KP [1,2,4,5,6,7,8] [19,30,37]) (λ⟨l,b,_⟩=>lv [(6,CC l b)]) AnN.2 func135 (by
 rintro⟨(l:O_),(b:Int),_⟩ hp;refine ho (.cl CJ (l,()) λz2=>.br ((l.conns.length:Int)==0) (.lf FB (z2.1,false,())) (.cl AC (b,(1:Int),(1000:Int),()) λz3=>.br (!z3.1) (.lf FB (z2.1,false,())) (.cl AeY (l.conns,b,()) λz4=>lpx (CC l b) ((⟨z2.1.net,z2.1.page,z2.1.parts,z4.1,z2.1.guesses⟩:O_),((0:Int),(l,(default,())))) λ(y5:dU) bk5=>.br (decide (y5.2.1<(y5.2.2.1.conns.length:Int))) (.cl Vw (y5.1.conns,()) λ(z5:E_)=>.br (decide (z5.1<0)) (.lf FB (y5.1,true,())) (.ob (HS.pre (y5.1,z5.1,()))<|.lt _ (HS.fn (y5.1,z5.1,())) λz6=>.re (Value.int IntKind.i64 b)<|.bk (bk5 (z6.1.1,(w1 y5.2.1,(y5.2.2.1,(y5.2.2.2.1,()))))))) (.lf FB (y5.1,true,()))))) ?_;refine Aj ?_ λ_=>(Aa (λh2=>lfY ?_) λh2=>Aj trivial λ_=>Aa (λh3=>lfY ?_) λh3=>Aj ?_ λ_=>Aq ?_ λ(y5:dU) i5=>Aa (λh6=>Aj ?_ λ_=>Aa (λh8=>lfY ?_) λh8=>Ac ?_ λ_=>K6 (An<|AR ?_)) λh6=>lfY ?_)<;>obtain⟨q1,q2⟩:=(show okTr l from hp)<;>(have hc:=PB q1 q2;try simp only[AA] at *)<;>(try simp only[std,Nat.reduceAdd] at *)<;>(first|trivial|omega|exact hc|exact hc.2.2.2.1|(rw[AkR (.inl o_)];exact⟨rfl,rfl⟩)|(rw[AkR (.inr ‹_›)];exact⟨rfl,rfl⟩)|exact⟨o_,o_,Ak4 q1 b⟩|skip)<;>(obtain⟨⟨⟨a1,a2,a3⟩,e1⟩,e2⟩:=i5;simp only[e1] at *)<;>(have hf:=AaW a3.1;have hd:=CI y5.1.conns 0 o_;have ha:=a3.2.1)<;>(first|trivial|omega|exact hf.2.1.1|exact⟨hf,o_,o_⟩|(rw[Ak6 o_ ‹_›];exact⟨ZB a3 o_,rfl⟩)|skip)<;>rw[show l.conns.length-y5.2.1.toNat=(l.conns.length-(y5.2.1.toNat+1))+1 from o_] at a3<;>rw[Aw o_,show(y5.2.1+1).toNat=y5.2.1.toNat+1 from o_]<;>exact⟨⟨⟨⟨o_,o_,Aai a3 o_⟩,by trivial⟩,e2⟩,o_⟩)
def actOf (l:O_) (n:Int):O_×Bool:=if n=0 then arrivePart l else if n=1 then requestNext l else if n=2 then guessNext l else if n=3 then transfer l 20 else transfer l 200
def okAct (l:O_):Prop:=okArr l/\okRN l/\okGN l/\okTr l
abbrev Ajg:Fct:=⟨[.v (.el .loader),.v (.el .int)],[.el .loader,.el .bool],λ(x:ca)=>okAct x.1,λ(x:ca)=>((actOf x.1 x.2.1).1,(actOf x.1 x.2.1).2,())⟩
def An7:=An5.a Ajg<|Fct.o (KP [1,2,4,5,6] [7,13,19,25]) An5.2 func95 (by
 rintro⟨(l:O_),(n:Int),_⟩ hp;refine ho (.br (n==0) (.cl Fz (l,()) λz2=>.lf Ajg (z2.1,z2.2.1,())) (.br (n==1) (.cl EA (l,()) λz3=>.lf Ajg (z3.1,z3.2.1,())) (.br (n==2) (.cl Ff (l,()) λz4=>.lf Ajg (z4.1,z4.2.1,())) (.br (n==3) (.cl FB (l,(20:Int),()) λz5=>.lf Ajg (z5.1,z5.2.1,())) (.cl FB (l,(200:Int),()) λz6=>.lf Ajg (z6.1,z6.2.1,())))))) ?_;repeat' (guard_target =~ Out.holds _ _;first|refine lfY ?_|refine Aa (λ_=>?_) λ_=>?_|refine Aj ?_ λ_=>?_)
 all_goals obtain⟨w1,w2,w4,w3⟩:=(show okAct l from hp)<;>(try simp only[AA] at *)<;>(try simp only[std,Nat.reduceAdd] at *)<;>(first|trivial|omega|exact w1|exact w2|exact w3|exact w4|skip)<;>unfold actOf<;>(repeat first|(rw[G_ o_];exact⟨rfl,rfl⟩)|rw[F_ o_])<;>(first|exact⟨rfl,rfl⟩|skip))
def stepR (l:O_) (c:Int):Nat->O_×Bool
 | 0=>(l,false)
 | n+1=>if(actOf l ((max 0 c % 5+(4-(n:Int))) % 5)).2=true then(actOf l ((max 0 c % 5+(4-(n:Int))) % 5)) else stepR l c n
def stepLoad (l:O_) (c:Int):O_×Bool:=stepR l c 5
def tm5 {a:Int} (h:0<=a):Int.tmod a 5=a % 5:=Int.tmod_eq_emod_of_nonneg h
def AlR {l:O_} {c i:Int} (h0:0<=i) (h5:i<5):stepR l c (5-i.toNat)=if(actOf l ((IntKind.i64.wrap (Int.tmod (max 0 c) 5+i)).tmod 5)).2=true then actOf l ((IntKind.i64.wrap (Int.tmod (max 0 c) 5+i)).tmod 5) else stepR l c (5-(i.toNat+1)):=by
 have e:(IntKind.i64.wrap (Int.tmod (max 0 c) 5+i)).tmod 5=(max 0 c % 5+(4-((5-(i.toNat+1):Nat):Int))) % 5:=by rw[tm5 (show 0<=max 0 c from o_),Aw o_,tm5 o_,show(4-((5-(i.toNat+1):Nat):Int))=i from o_]
 rw[e,show 5-i.toNat=(5-(i.toNat+1))+1 from o_];rw[stepR]
def AlD {l:O_} {c i:Int} (h:5<=i):stepR l c (5-i.toNat)=(l,false):=by rw[show 5-i.toNat=0 from o_];rfl
abbrev H2:Fct:=⟨[.v (.el .loader),.v (.el .int)],[.el .loader,.el .bool],λ(x:ca)=>okAct x.1,λ(x:ca)=>((stepLoad x.1 x.2.1).1,(stepLoad x.1 x.2.1).2,())⟩
abbrev CF (l:O_) (c:Int):LInv:=⟨[⟨.s,7,true,.el .int⟩,⟨.b,2,false,.el .loader⟩,⟨.b,4,true,.el .loader⟩],λ(z x:dV)=>((0<=x.1/\x.1<=5/\stepR l c (5-x.1.toNat)=stepLoad l c)/\x.2.1=z.2.1)/\x.2.2.1=z.2.2.1,λ(x:dV)=>5-x.1.toNat⟩
def Anl:=An7.a H2<|Fct.p (KP [1,2,4,5,6,7,8,9] [14,26]) (λ⟨l,c,_⟩=>lv [(3,CF l c)]) An7.2 func52 (by
 rintro⟨(l:O_),(c:Int),_⟩ hp;refine ho (.cl Ajt ((0:Int),c,()) λ(z2:E_)=>.ob ((5:Int)≠(0:Int))<|lpx (CF l c) ((0:Int),(l,(default,()))) λ(y2:dV) bk2=>.br (decide (y2.1<5)) (.ob ((5:Int)≠(0:Int))<|.cl Ajg (y2.2.1,(wr (z2.1.tmod (5:Int)+y2.1)).tmod (5:Int),()) λz3=>.br (z3.2.1) (.lf H2 (z3.1,true,())) (.re (Value.int IntKind.i64 c)<|.re (Value.int IntKind.i64 (z2.1.tmod (5:Int)))<|.bk (bk2 (w1 y2.1,(y2.2.1,(y2.2.2.1,())))))) (.cl CJ (y2.2.1,()) λz4=>.lf H2 (z4.1,false,()))) ?_;refine Aj trivial λ_=>(Ac ?_ λ_=>Aq ?_ λ(y2:dV) i2=>Aa (λh3=>Ac ?_ λ_=>Aj ?_ λ_=>Aa (λh6=>lfY ?_) λh6=>An<|An<|AR ?_) λh3=>Aj ?_ λ_=>lfY ?_)<;>(have hq:=(show okAct l from hp);have hw:=hq.2.2.2;try simp only[AA] at *)<;>(try simp only[std,Nat.reduceAdd] at *)<;>(first|trivial|omega|exact⟨o_,o_,rfl⟩|skip)<;>(obtain⟨⟨⟨a1,a2,a3⟩,e1⟩,e2⟩:=i2;simp only[e1] at *)<;>(first|trivial|omega|exact hq|exact PB hw.1 hw.2|skip)<;>(first|(rw[AlD o_] at a3;rw[<-a3];exact⟨rfl,rfl⟩)|rw[AlR a1 o_] at a3)<;>(first|(rw[G_ ‹_›] at a3;rw[<-a3];exact⟨rfl,Eq.symm ‹_›⟩)|(rw[F_ λq=>tf q ‹_›] at a3;rw[Aw o_,show(y2.1+1).toNat=y2.1.toNat+1 from o_];exact⟨⟨⟨⟨o_,o_,a3⟩,by trivial⟩,e2⟩,o_⟩)))
def Kp (p:HO):Prop:=okTo p/\-9223372036854775808<=p.block/\p.block<=9223372036854775807
def We {p q:HO} (h:Kp p) (hs:q.bf=p.bf) (hm:q.bi=p.bi) (hb:q.block=p.block):Kp q:=by
 unfold Kp okTo at *
 rw[hs,hm,hb];exact h
def XC (p:HO) (m:Int) (to d:ByteArray) (n:Int):(newSlot p m to d n).to=(parseAddr to p.addr.host).1:=by unfold newSlot;split<;>rfl
def Wk {p:HO} (h:Kp p) (m:Int) (to d:ByteArray) (n:Int):Kp (addSlot p m to d n).1:=by
 unfold addSlot;split
 ·refine⟨⟨λs hs=>?_,h.1.2⟩,h.2⟩;rcases ae.1 hs with q|q
  ·exact h.1.1 s q
  ·rw[List.mem_singleton.1 q,XC];have:=EY to p.addr.host;omega
 ·exact h
def AkW {p:HO} (h:Kp p) {a:FS} (ha:szAddr a<=16):Kp (askModule p a):=by
 unfold askModule;split
 ·exact h
 ·refine⟨⟨h.1.1,λm hm=>?_⟩,h.2⟩;rcases ae.1 hm with q|q
  ·exact h.1.2 m (fH q)
  ·rcases ah.1 q with q|q
   ·rw[q];have e:(newMod p a).to=a:=by unfold newMod;first|rfl|(split<;>rfl)
    rw[e];omega
   ·exact h.1.2 m (fC q)
def AiP {p:HO} (h:Kp p) (to:ByteArray):Kp (addEntry p to):=by
 unfold addEntry;split
 ·exact We (AkW h (EY to p.addr.host)) rfl rfl rfl
 ·exact h
def Abu {p:HO} (h:Kp p) (t:af) (n:Int):Kp (element p t n):=by
 unfold element;split
 ·exact Wk h ..
 ·split
  ·exact Wk h ..
  ·exact h
def AeQ {p:HO} (h:Kp p) (n:Int):Kp (script p n):=by
 unfold script;split
 ·split
  ·exact We h rfl rfl rfl
  ·exact h
 ·split
  ·exact Wk h ..
  ·split
   ·exact AiP h ..
   ·have hb:=O0 p 3 ((findAttr (p.ba.bj.getD n.toNat default).bq ⟨#[115,114,99]⟩).getD ⟨#[]⟩) ((findAttr (p.ba.bj.getD n.toNat default).bq ⟨#[100,105,103,101,115,116]⟩).getD ⟨#[]⟩) n;exact⟨(Wk h ..).1,by dsimp only;omega,by dsimp only;omega⟩
def AjW {p:HO} (h:Kp p) (s:ByteArray):Kp (say p s):=by
 unfold say;split
 ·exact We h rfl rfl rfl
 ·exact h
def Ahj {p:HO} (h:Kp p) (c:ByteArray) (w:Bool):Kp (runCode p c w):=by
 unfold runCode;split
 ·exact We h rfl rfl rfl
 ·exact We h rfl rfl rfl
def Ajk {p:HO} (h:Kp p):Kp (takeToken p).1:=by
 unfold takeToken;split
 ·exact h
 ·have ht:Kp (taken p (p.bp.getD 0 default)):=We h rfl rfl rfl;show Kp (takeTok p _);unfold takeTok;split
  ·exact Abu ht _ _
  ·split
   ·exact AeQ ht _
   ·exact ht
def Ajl {p:HO} (h:Kp p):Kp { p with block:=0 }:=⟨h.1,by dsimp only;omega,by dsimp only;omega⟩
def AfZ {p:HO} (h:Kp p):Kp (stepParser p).1:=by
 unfold stepParser;split
 ·unfold stepInline;split
  ·exact We (Ahj h _ _) rfl rfl rfl
  ·exact h
 ·split
  ·unfold stepBlock;split
   ·exact Ajl h
   ·split
    ·exact h
    ·split
     ·exact Ajl (Ahj h _ _)
     ·exact Ajl h
  ·exact Ajk h
def Pd (p:HO):∀ (l:List FS) (q:HO),Kp q->Kp (enterAll p q l)
 | [],q,h=>h
 | b::l,q,h=>by
  refine Pd p l (enter1 p q b) ?_;unfold enter1;split
  ·exact h
  ·exact We h rfl rfl rfl
def AiF {p:HO} (h:Kp p) (a:FS):Kp (enter p a):=by
 unfold enter;split
 ·exact AjW h _
 ·exact Pd p _ p h
def AkD {p:HO} (h:Kp p):Kp (stepTail p).1:=by
 unfold stepTail;split
 ·exact h
 ·split
  ·unfold tailDefer;split
   ·exact h
   ·split
    ·exact We (Ahj h _ _) rfl rfl rfl
    ·exact We h rfl rfl rfl
  ·split
   ·unfold tailEnter;split
    ·exact h
    ·exact We (AiF h _) rfl rfl rfl
   ·split
    ·exact h
    ·exact We (AjW h _) rfl rfl rfl
def Ai3:∀ (n:Nat) (p:HO),Kp p->Kp (adv n p)
 | 0,p,h=>h
 | n+1,p,h=>by
  rw[adv];split
  ·refine Ai3 n _ ?_;unfold step1;split
   ·exact AfZ h
   ·exact AkD h
  ·exact h
def AgI:∀ (l:List FS) (p:HO),Kp p->(∀ b,b∈l->b.host.size<=8/\b.path.size<=8)->Kp (l.foldl askModule p)
 | [],p,h,_=>h
 | b::l,p,h,hb=>AgI l (askModule p b) (AkW h (by have:=hb b cW;simp only[szAddr];omega)) λc hc=>hb c (cT _ hc)
def Ad4 (p:HO) (a:FS) (x:L_) (s:aw):(fillF p a x s).to=s.to:=by
 unfold fillF;split
 ·unfold fillS;split<;>rfl
 ·rfl
def KV {α:Type} {f:α->α} {m:α}:∀ {l:List α} {i:Nat},m∈l.modify i f->m∈l\/∃ z,z∈l/\m=f z
 | [],0,h=>.inl h
 | [],_+1,h=>.inl h
 | z::l,0,h=>by
  rcases ah.1 (show m∈f z::l from h) with q|q
  ·exact .inr ⟨z,cW,q⟩
  ·exact .inl (cT _ q)
 | z::l,i+1,h=>by
  rcases ah.1 (show m∈z::l.modify i f from h) with q|q
  ·exact .inl (by rw[q];exact cW)
  ·rcases KV q with q|⟨w,h1,h2⟩
   ·exact .inl (cT _ q)
   ·exact .inr ⟨w,cT _ h1,h2⟩
def Aen {p:HO} (h:Kp p) (a:FS) (x:L_):Kp (fillM0 p a x):=by
 refine⟨⟨h.1.1,λm hm=>?_⟩,h.2⟩;rcases KV (show m∈p.bi.modify (findMod p.bi a).toNat (fillM p x) from hm) with q|⟨z,h1,h2⟩
 ·exact h.1.2 m q
 ·rw[h2];exact h.1.2 z h1
def LW {p:HO} (h:Kp p) (a:FS) (x:L_):Kp (takeAnswer p a x):=by
 have h1:Kp (fillAll p a x):=by refine⟨⟨λs hs=>?_,h.1.2⟩,h.2⟩;obtain⟨z,hz,rfl⟩:=bG.1 (show s∈p.bf.map (fillF p a x) from hs);rw[Ad4];exact h.1.1 z hz
 refine Ai3 2000 _ ?_;unfold fillModule;split
 ·exact h1
 ·rename_i hc;exact AgI _ _ (Aen h1 a x) (MM (x:=x) (show 0<=findMod (fillAll p a x).bi a from o_)).1
def AjM {p:HO} (h:Kp p) (s:ByteArray):Kp (arriveText p s):=by
 unfold arriveText;split
 ·exact h
 ·exact We h rfl rfl rfl
def AlT {p:HO} (h:Kp p):Kp (endPage p):=by
 unfold endPage;split
 ·exact h
 ·exact We h rfl rfl rfl
def GO (p:HO) (m:Int) (to d:ByteArray) (n:Int):(addSlot p m to d n).1.tok=p.tok:=by unfold addSlot;split<;>rfl
def ZJ (p:HO) (a:FS):(askModule p a).tok=p.tok:=by unfold askModule;split<;>rfl
def RJ (p:HO) (to:ByteArray):(addEntry p to).tok=p.tok:=by
 unfold addEntry;split
 ·exact ZJ p _
 ·rfl
def UG (p:HO) (t:af) (n:Int):(element p t n).tok=p.tok:=by
 unfold element;split
 ·exact GO ..
 ·split
  ·exact GO ..
  ·rfl
def Xc (p:HO) (n:Int):(script p n).tok=p.tok:=by
 unfold script;split
 ·split<;>rfl
 ·split
  ·exact GO ..
  ·split
   ·exact RJ ..
   ·exact GO p ..
def Aag (p:HO) (s:ByteArray):(say p s).tok=p.tok:=by unfold say;split<;>rfl
def Ja (p:HO) (c:ByteArray) (w:Bool):(runCode p c w).tok=p.tok:=by unfold runCode;split<;>rfl
def PG (p:HO):(takeToken p).1.tok=p.tok:=by
 unfold takeToken;split
 ·rfl
 ·show(takeTok p _).tok=_;unfold takeTok;split
  ·exact UG _ _ _
  ·split
   ·exact Xc _ _
   ·rfl
def XJ (p:HO):(stepParser p).1.tok=p.tok:=by
 unfold stepParser;split
 ·unfold stepInline;split
  ·exact Ja _ _ _
  ·rfl
 ·split
  ·unfold stepBlock;split
   ·rfl
   ·split
    ·rfl
    ·split
     ·exact Ja _ _ _
     ·rfl
  ·exact PG p
def K5 (p:HO):∀ (l:List FS) (q:HO),(enterAll p q l).tok=q.tok
 | [],q=>rfl
 | b::l,q=>by have:=K5 p l (enter1 p q b);refine this.trans ?_;unfold enter1;split<;>rfl
def Aa0 (p:HO) (a:FS):(enter p a).tok=p.tok:=by
 unfold enter;split
 ·exact Aag _ _
 ·exact K5 p _ p
def AfF (p:HO):(stepTail p).1.tok=p.tok:=by
 unfold stepTail;split
 ·rfl
 ·split
  ·unfold tailDefer;split
   ·rfl
   ·split
    ·exact Ja _ _ _
    ·rfl
  ·split
   ·unfold tailEnter;split
    ·rfl
    ·exact Aa0 _ _
   ·split
    ·rfl
    ·exact Aag _ _
def Uq:∀ (n:Nat) (p:HO),(adv n p).tok=p.tok
 | 0,p=>rfl
 | n+1,p=>by
  rw[adv];split
  ·refine(Uq n _).trans ?_;unfold step1;split
   ·exact XJ p
   ·exact AfF p
  ·rfl
def Vo:∀ (l:List FS) (p:HO),(l.foldl askModule p).tok=p.tok
 | [],p=>rfl
 | b::l,p=>(Vo l (askModule p b)).trans (ZJ p b)
def KS (p:HO) (a:FS) (x:L_):(takeAnswer p a x).tok=p.tok:=by
 refine(Uq 2000 _).trans ?_;unfold fillModule;split
 ·rfl
 ·exact Vo _ _
def Abk {all:List ce}:∀ {l:List ce} {k:Int},entOk all l k=true->∀ e,e∈l->Ab e.bd<=700
 | [],_,_,e,he=>by cases he
 | y::l,k,h,e,he=>Kb (Iv h e he)
def okNg (G:Nat) (n:N_):Prop:=szL Af n.servers<=1048576/\szCache n.cache<=2097152/\(∀ e,e∈n.cache.bh->Ab e.bd<=1048576)/\szL Gv n.log+2100000*G<=7000000000
def AfJ {G:Nat} {n:N_} (h:okNg G n):okNt n:=⟨by simp only[szNet];have:=h.1;have:=h.2.1;have:=h.2.2.2;omega,by have:=h.2.1;omega,h.1,h.2.2.1⟩
def Al0 {G:Nat} {n:N_} (h:okNg G n):okNk n:=⟨by simp only[szNet];have:=h.1;have:=h.2.2.2;omega,by have:=h.2.1;omega⟩
def KA {G:Nat} {n:N_} (h:okNg (G+1) n):okNg G n:=⟨h.1,h.2.1,h.2.2.1,by have:=h.2.2.2;omega⟩
def keep_ng {G:Nat} {n:N_} (h:okNg G n) (t:ByteArray) (a:FS) (x:L_):okNg G (keepAnswer n t a x):=by
 unfold keepAnswer;split
 ·refine⟨h.1,JL n.cache t a x n.now h.2.1 o_,λe he=>?_,h.2.2.2⟩;have he:e∈(storeEntry n.cache t a x n.now).bh:=he;unfold storeEntry at he;split at he
  ·rename_i q;have q:=q.2.2.2;unfold isCache at q;rw[S_] at q;exact aR (Abk q.1 e he) o_
  ·exact h.2.2.1 e he
 ·exact h
def AgW {G:Nat} {n:N_} (h:okNg (G+1) n) {t:ByteArray} {a:FS} (g:Bool) (ht:t.size<=2097152) (ha:szAddr a<=16):okNg G (logSent n t a g):=by
 have h4:=h.2.2.2;unfold logSent;split
 ·refine⟨h.1,h.2.1,h.2.2.1,?_⟩;show szL Gv (n.log++[⟨t,a,g⟩])+2100000*G<=7000000000;rw[EU];simp only[Gv];omega
 ·exact KA h
def L8 {G:Nat} {n:N_} (h:okNg (G+1) n) {t:ByteArray} (a:FS) (g:Bool) (ht:t.size<=2097152):okNg G (fetchNow n t a g).1:=by
 unfold fetchNow;split
 ·exact KA h
 ·rename_i hn;split
  ·exact KA h
  ·have ha:szAddr a<=16:=by
    have e:(isName a.host&&isName a.path)=true:=by
     cases q:(isName a.host&&isName a.path) with
     | true=>rfl
     | false=>exact absurd (by first|exact q|(rw[q];rfl)|(simp[q])) hn
    rw[S_] at e;have a1:=FL e.1;have a2:=FL e.2;simp only[szAddr];omega
   dsimp only;split
   ·exact AgW h g ht ha
   ·exact keep_ng (AgW h g ht ha) _ _ _
def okL (G:Nat) (l:O_):Prop:=(∃ Q M R,okAll l.page Q M R/\Q+740000*l.conns.length+8000000*G<=889000000000/\M+600*wCs l.conns+250000*G<=48000000000/\R+20*wCs l.conns+10000*G<=18000000000)/\(Kp l.page/\l.page.addr.host.size<=2097152/\l.page.tok.rest.size+szL Ag l.parts<=2900000)/\(okCs l.conns/\l.conns.length<=1048576/\l.guesses.length+l.conns.length+G<=4194304/\okGs l.guesses)/\okNg G l.net
def GU {G:Nat} {l:O_} (h:okL (G+1) l):okL G l:=by
 obtain⟨⟨Q,M,R,h1,h2,h3,h4⟩,h5,⟨h6,h7,h8,h9⟩,h10⟩:=h;exact⟨⟨Q,M,R,h1,o_,o_,o_⟩,h5,⟨h6,h7,o_,h9⟩,KA h10⟩
def Ra {G:Nat} {l:O_} (h:okL G l):okAct l:=by
 obtain⟨⟨Q,M,R,h1,h2,h3,h4⟩,⟨k1,k2,k3⟩,⟨h6,h7,h8,h9⟩,h10⟩:=h;have hf:okFM l.page:=⟨Q,M,R,h1,o_,o_,o_⟩;have hp:=D1 (EV hf);have hn:=AfJ h10;have hl:=Ad Ag l.parts;refine⟨⟨⟨by have:=hn.1;omega,h7,o_⟩,k3,Q,M,R,h1,o_,o_,o_⟩,⟨⟨⟨hf,k1.1,o_⟩,k1.2.1,k1.2.2,o_⟩,⟨h7,h6⟩,⟨o_,h9⟩,hn⟩,⟨hn,⟨hp.1,λt ht=>?_,o_⟩,o_,h7,o_⟩,⟨⟨Q,M,R,h1,o_,o_,o_⟩,⟨h6,h7,o_⟩,Al0 h10⟩,o_⟩;have:=h1.1.1 t ht;omega
def AhR {l:O_}:(arrPage l).addr=l.page.addr:=by
 unfold arrPage;have e:(arriveText l.page (l.parts.getD 0 default)).addr=l.page.addr:=by unfold arriveText;split<;>rfl
 split
 ·refine Eq.trans ?_ e;unfold endPage;split<;>rfl
 ·exact e
def Vp {G:Nat} {l:O_} (h:okL (G+1) l):okL G (arrivePart l).1:=by
 by_cases hp:l.parts.length=0
 ·rw[AgA hp];exact GU h
 ·rw[UB hp];obtain⟨⟨Q,M,R,h1,h2,h3,h4⟩,⟨k1,k2,k3⟩,⟨h6,h7,h8,h9⟩,h10⟩:=h;have hg:=B_ (l:=l.parts) (i:=0) o_;have hz:szL Ag l.parts=(l.parts.getD 0 default).size+1+szL Ag (l.parts.drop 1):=by have e:szL Ag l.parts=szL Ag (l.parts.drop 0):=rfl;rw[e,hg,Ah]
  obtain⟨a1,a2,a3⟩:=Age h1 o_;have hk:Kp (arrPage l):=by
   unfold arrPage;split
   ·exact AlT (AjM k1 _)
   ·exact AjM k1 _
  have et:(advance (arrPage l)).tok=(arrPage l).tok:=Uq 2000 _;have ea:(advance (arrPage l)).addr=l.page.addr:=(Pw 2000 _).trans AhR;refine⟨⟨_,_,_,OQ a2,by dsimp only;omega,by dsimp only;omega,by dsimp only;omega⟩,⟨Ai3 2000 _ hk,by dsimp only;rw[ea];exact k2,by dsimp only;rw[et];omega⟩,⟨h6,h7,by dsimp only;omega,h9⟩,KA h10⟩
def AbF {l:List ao} {a:FS} {x:L_} {g:Bool} (h:okCs l) (ha:szAddr a<=4000000) (hx:Ab x<=1048576):okCs (openConn l a x g).1/\(openConn l a x g).1.length<=l.length+1/\((openConn l a x g).1.length<=3\/(openConn l a x g).1.length<=l.length)/\wCs (openConn l a x g).1<=wCs l+400:=by
 unfold openConn;split
 ·exact⟨h,Nat.le_succ _,.inr (Y_ _),cO _ _⟩
 ·rename_i q;refine⟨λc hc=>?_,by simp only[ak,aq,aU];omega,.inl (by simp only[ak,aq,aU];omega),?_⟩
  ·rcases ae.1 hc with q|q
   ·exact h c q
   ·rw[List.mem_singleton.1 q];exact⟨hx,ha⟩
  ·unfold wCs;simp only[fG,bz,List.map_nil,List.sum_append,List.sum_cons,List.sum_nil];have:wB x<=400:=Nat.min_le_left _ _;omega
def Ahz {l:List aZ} (h:okGs l) (a:FS):okGs (useGuess l a).1/\(useGuess l a).1.length=l.length:=by
 unfold useGuess;split
 ·exact⟨h,rfl⟩
 ·refine⟨λg hg=>?_,List.length_modify ..⟩;rcases KV hg with q|⟨z,h1,h2⟩
  ·exact h g q
  ·rw[h2];exact h z h1
def Acw {G:Nat} {l:O_} (h:okL (G+1) l):okL G (requestNext l).1:=by
 have hm:=GU h;obtain⟨⟨Q,M,R,h1,h2,h3,h4⟩,⟨k1,k2,k3⟩,⟨h6,h7,h8,h9⟩,h10⟩:=h;have hn:=AfJ h10;unfold requestNext;split
 ·exact hm
 ·rename_i hk;have ht:=AkB (l:=l) k1.1 o_;split
  ·obtain⟨g1,g2⟩:=Ahz h9 (reqTo l);have hw:wB (useGuess l.guesses (reqTo l)).2.1<=400:=Nat.min_le_left _ _;have et:(takeAnswer l.page (reqTo l) (useGuess l.guesses (reqTo l)).2.1).tok=l.page.tok:=KS ..;have ea:(takeAnswer l.page (reqTo l) (useGuess l.guesses (reqTo l)).2.1).addr=l.page.addr:=IU ..;exact⟨⟨_,_,_,Ie h1 (reqTo l) (useGuess l.guesses (reqTo l)).2.1,by dsimp only;omega,by dsimp only;omega,by dsimp only;omega⟩,⟨LW k1 _ _,by dsimp only;rw[ea];exact k2,by dsimp only;rw[et];exact k3⟩,⟨h6,h7,by dsimp only;omega,g1⟩,keep_ng (KA h10) _ _ _⟩
  ·split
   ·exact hm
   ·obtain⟨o1,o2,o3,o4⟩:=AbF (g:=false) h6 ht (Gy (t:=l.page.addr.host) (a:=reqTo l) (g:=false) hn);exact⟨⟨Q,M,R,h1,by dsimp only;omega,by dsimp only;omega,by dsimp only;omega⟩,⟨k1,k2,k3⟩,⟨o1,by dsimp only;omega,by dsimp only;omega,h9⟩,L8 h10 _ _ k2⟩
def Agn {G:Nat} {l:O_} (h:okL (G+1) l):∀ m:List FS,(∀ a,a∈m->szAddr a<=16)->okL G (nextGuess l m).1
 | [],_=>GU h
 | a::m,hm=>by
  rw[nextGuess];split
  ·exact Agn h m λb hb=>hm b (cT _ hb)
  ·obtain⟨⟨Q,M,R,h1,h2,h3,h4⟩,⟨k1,k2,k3⟩,⟨h6,h7,h8,h9⟩,h10⟩:=h;have ha:=hm a cW;obtain⟨o1,o2,o3,o4⟩:=AbF (g:=true) h6 (show szAddr a<=4000000 from o_) (Gy (t:=l.page.addr.host) (a:=a) (g:=true) (AfJ h10));exact⟨⟨Q,M,R,h1,by dsimp only;omega,by dsimp only;omega,by dsimp only;omega⟩,⟨k1,k2,k3⟩,⟨o1,by dsimp only;omega,by dsimp only;omega,h9⟩,L8 h10 _ _ k2⟩
def AiC {G:Nat} {l:O_} (h:okL (G+1) l):okL G (guessNext l).1:=by
 unfold guessNext;split
 ·exact GU h
 ·refine Agn h _ λa ha=>?_
  obtain⟨i,hi,he⟩:=List.mem_iff_getElem.1 ha;have:=Lk (p:=l.page) hi;rw[aV,aG hi,he] at this;exact this
def AhL {l:List aZ} {a:FS} {x:L_} (h:okGs l) (hx:Ab x<=1048576):okGs (addGuess l a x).1:=by
 unfold addGuess;split
 ·exact h
 ·intro g hg;rcases ae.1 hg with q|q
  ·exact h g q
  ·rw[List.mem_singleton.1 q];exact hx
def Afs {G:Nat} {l:O_} {k:Int} (h:okL G l) (h0:0<=k) (hk:k<l.conns.length):okL G (finish1 l k):=by
 obtain⟨⟨Q,M,R,h1,h2,h3,h4⟩,⟨k1,k2,k3⟩,⟨h6,h7,h8,h9⟩,h10⟩:=h;have c1:=JI h0 hk;have c2:=SO h0 hk;have c3:=Vk h0 hk h6;have ha:=Ie h1 (l.conns.getD k.toNat default).to (l.conns.getD k.toNat default).bd;have hg:=V9 l.guesses (l.conns.getD k.toNat default).to (l.conns.getD k.toNat default).bd;have hr:=(h6 _ (Ae (show k.toNat<l.conns.length from o_))).1;have hgo:=AhL (a:=(l.conns.getD k.toNat default).to) h9 hr;have et:(takeAnswer l.page (l.conns.getD k.toNat default).to (l.conns.getD k.toNat default).bd).tok=l.page.tok:=KS ..;have ea:(takeAnswer l.page (l.conns.getD k.toNat default).to (l.conns.getD k.toNat default).bd).addr=l.page.addr:=IU ..;unfold finish1 finishC;dsimp only;split
 ·split
  ·exact⟨⟨_,_,_,ha,by dsimp only;omega,by dsimp only;omega,by dsimp only;omega⟩,⟨LW k1 _ _,by dsimp only;rw[ea];exact k2,by dsimp only;rw[et];exact k3⟩,⟨c3,by dsimp only;omega,by dsimp only;omega,h9⟩,keep_ng h10 _ _ _⟩
  ·exact⟨⟨_,_,_,ha,by dsimp only;omega,by dsimp only;omega,by dsimp only;omega⟩,⟨LW k1 _ _,by dsimp only;rw[ea];exact k2,by dsimp only;rw[et];exact k3⟩,⟨c3,by dsimp only;omega,by dsimp only;omega,h9⟩,h10⟩
 ·split
  ·exact⟨⟨_,_,_,h1,by dsimp only;omega,by dsimp only;omega,by dsimp only;omega⟩,⟨k1,k2,k3⟩,⟨c3,by dsimp only;omega,by dsimp only;omega,hgo⟩,h10⟩
  ·exact⟨⟨_,_,_,h1,by dsimp only;omega,by dsimp only;omega,by dsimp only;omega⟩,⟨k1,k2,k3⟩,⟨c3,by dsimp only;omega,by dsimp only;omega,h9⟩,h10⟩
def Agi {G:Nat}:∀ (n:Nat) (l:O_),okL G l->okL G (xfer n l)
 | 0,l,h=>h
 | n+1,l,h=>by
  rw[xfer];split
  ·exact h
  ·have hd:=CI l.conns 0 o_;exact Agi n _ (Afs h o_ o_)
def Ahe {G:Nat} {l:O_} (h:okL G l) (b:Int):okL G (moved l b):=by
 obtain⟨⟨Q,M,R,h1,h2,h3,h4⟩,⟨k1,k2,k3⟩,⟨h6,h7,h8,h9⟩,h10⟩:=h;have e1:=DX l.conns b;have e2:=Agr l.conns b;unfold moved;exact⟨⟨Q,M,R,h1,by dsimp only;omega,by dsimp only;omega,by dsimp only;omega⟩,⟨k1,k2,k3⟩,⟨Acv b h6,by dsimp only;omega,by dsimp only;omega,h9⟩,h10⟩
def OO {G:Nat} {l:O_} (h:okL G l) (b:Int):okL G (transfer l b).1:=by
 unfold transfer;split
 ·exact h
 ·exact Agi _ _ (Ahe h b)
def Alm {G:Nat} {l:O_} (h:okL (G+1) l) (n:Int):okL G (actOf l n).1:=by
 unfold actOf;split
 ·exact Vp h
 ·split
  ·exact Acw h
  ·split
   ·exact AiC h
   ·split
    ·exact OO (GU h) 20
    ·exact OO (GU h) 200
def Y9 {G:Nat} {l:O_} (h:okL (G+1) l) (c:Int):∀ n,okL G (stepR l c n).1
 | 0=>GU h
 | n+1=>by
  rw[stepR];split
  ·exact Alm h _
  ·exact Y9 h c n
def AgC {G:Nat} {l:O_} (h:okL (G+1) l) (c:Int):okL G (stepLoad l c).1:=Y9 h c 5
def finL (l:O_):Bool:=l.page.loaded&&decide (l.parts.length=0)
def stepTo (l:O_) (c:Int):O_:=(stepLoad l c).1
def runB:Nat->O_->O_
 | 0,l=>l
 | n+1,l=>if finL l=true then l else if(stepLoad l 0).2=true then runB n (stepTo l 0) else l
def runLoad (l:O_) (cs:List Int):O_:=runB 1000 ((cs.take 100).foldl stepTo l)
def Agu {G H:Nat} {l:O_} (h:okL H l) (hle:G<=H):okL G l:=by
 obtain⟨⟨Q,M,R,h1,h2,h3,h4⟩,h5,⟨h6,h7,h8,h9⟩,n1,n2,n3,n4⟩:=h;exact⟨⟨Q,M,R,h1,o_,o_,o_⟩,h5,⟨h6,h7,o_,h9⟩,n1,n2,n3,o_⟩
def QA {G:Nat} {l:O_} (h:okL G l):szNet l.net<=68719476736/\Al l.page<=1099511627776/\l.parts.length<=1000000000/\l.conns.length<=1048576/\l.guesses.length<=4194304:=PB (Ra h).2.2.2.1 (Ra h).2.2.2.2
def Ai6 {cs:List Int} {i:Nat} {o T:O_} (h:((cs.take 100).drop i).foldl stepTo o=T) (hi:i<(cs.take 100).length):((cs.take 100).drop (i+1)).foldl stepTo (stepLoad o (cs.getD i default)).1=T:=by
 rw[B_ hi,dD] at h;have e:(cs.take 100).getD i default=cs.getD i default:=by rw[cX] at hi;rw[aV,aV,List.getElem?_take_of_lt o_]
 rw[e] at h;exact h
def Ad0 {cs:List Int} {i:Nat} {o T:O_} (h:((cs.take 100).drop i).foldl stepTo o=T) (hi:(cs.take 100).length<=i):o=T:=by
 rw[bQ hi] at h;exact h
def AfN {l:O_} (h:finL l=true):∀ n,runB n l=l
 | 0=>rfl
 | n+1=>by rw[runB,G_ h]
def AiG {l:O_} (h:finL l=false) (h2:(stepLoad l 0).2=false):∀ n,runB n l=l
 | 0=>rfl
 | n+1=>by rw[runB,F_ (by rw[h];decide),F_ (by rw[h2];decide)]
def Aiy {l:O_} {n:Nat} (h:finL l=false) (h2:(stepLoad l 0).2=true):runB (n+1) l=runB n (stepLoad l 0).1:=by
 rw[runB,F_ (by rw[h];decide),G_ h2];rfl
def AjJ {l T:O_} {i:Int} (h:runB (1000-i.toNat) l=T) (hi:1000<=i):l=T:=by
 rw[show 1000-i.toNat=0 from o_] at h;exact h
abbrev Qt:Fct:=⟨[.v (.el .loader),.v (.sl .int)],[.el .loader],λ(x:O_×(List Int)×Unit)=>okL 1100 x.1/\x.2.1.length<=1048576,λ(x:O_×(List Int)×Unit)=>(runLoad x.1 x.2.1,())⟩
abbrev C7 (l:O_) (cs:(List Int)):LInv:=⟨[⟨.b,5,true,.el .loader⟩,⟨.s,6,true,.el .int⟩,⟨.b,4,true,.el .loader⟩],λ(z x:bL)=>(0<=x.2.1/\x.2.1<=(cs.take 100).length/\((cs.take 100).drop x.2.1.toNat).foldl stepTo x.1=(cs.take 100).foldl stepTo l/\okL (1100-x.2.1.toNat) x.1)/\x.2.2.1=z.2.2.1,λ(x:bL)=>100-x.2.1.toNat⟩
abbrev CX (l:O_) (cs:(List Int)):LInv:=⟨[⟨.b,5,true,.el .loader⟩,⟨.s,9,true,.el .int⟩,⟨.b,4,true,.el .loader⟩],λ(z x:bL)=>(0<=x.2.1/\x.2.1<=1000/\runB (1000-x.2.1.toNat) x.1=runLoad l cs/\okL (1000-x.2.1.toNat) x.1)/\x.2.2.1=z.2.2.1,λ(x:bL)=>1000-x.2.1.toNat⟩
def AnK:=Anl.a Qt<|Fct.p (KP [1,2,4,5,6,7,9,10,11] [21,40,49]) (λ⟨l,cs,_⟩=>λ|3=>some (C7 l cs)|8=>some (CX l cs)|_=>none) Anl.2 func26 (by
 rintro⟨(l:O_),(cs:List Int),_⟩ hp;refine ho (.cl CJ (l,()) λz2=>lpx (C7 l cs) (z2.1,((0:Int),(default,()))) λ(y2:bL) bk2=>let H_:=lpx (CX l cs) (y2.1,((0:Int),(y2.2.2.1,()))) λ(y8:bL) bk8=>let J_:Out:=.lf Qt (y8.1,());.br (decide (y8.2.1<1000)) (.cl Hb (y8.1,()) λz4=>.br (!z4.1) (.cl H2 (y8.1,(0:Int),()) λz5=>.br (!z5.2.1) J_ (.re (Value.int IntKind.i64 y2.2.1)<|.re (cs)<|.bk (bk8 (z5.1,(w1 y8.2.1,(y8.2.2.1,())))))) J_) J_;.br (decide (y2.2.1<(cs.length:Int))) (.br (decide (y2.2.1<100)) (.ob (inB y2.2.1 cs.length)<|.cl H2 (y2.1,cs.getD y2.2.1.toNat default,()) λz3=>.re (cs)<|.bk (bk2 (z3.1,(w1 y2.2.1,(y2.2.2.1,()))))) H_) H_) ?_;refine Aj ?_ λ_=>(Aq ?_ λ(y2:bL) i2=>Aa (λh3=>Aa (λh4=>Ac ?_ λ_=>Aj ?_ λ_=>(An<|AR ?_)) λh4=>Aq ?_ λ(y8:bL) i8=>Aa (λh9=>Aj trivial λ_=>Aa (λh10=>Aj ?_ λ_=>Aa (λh12=>lfY ?_) λh12=>An<|An<|AR ?_) λh10=>lfY ?_) λh9=>lfY ?_) λh3=>Aq ?_ λ(y14:bL) i14=>Aa (λh15=>Aj trivial λ_=>Aa (λh16=>Aj ?_ λ_=>Aa (λh18=>lfY ?_) λh18=>An<|An<|AR ?_) λh16=>lfY ?_) λh15=>lfY ?_)<;>obtain⟨q1,q2⟩:=(show okL 1100 l/\cs.length<=1048576 from hp)<;>(try simp only[AA] at *)<;>(try simp only[std,Nat.reduceAdd] at *)<;>have hk:(cs.take 100).length=min 100 cs.length:=cX ..<;>(first|trivial|omega|exact QA q1|exact⟨o_,o_,rfl,q1⟩|exact⟨o_,o_,q1⟩|skip)<;>(obtain⟨⟨a1,a2,a3,a4⟩,e1⟩:=i2)<;>(first|omega|exact Ra a4|exact QA a4|skip)<;>(first|(rw[Aw o_,show(y2.2.1+1).toNat=y2.2.1.toNat+1 from o_];rw[show 1100-y2.2.1.toNat=1100-(y2.2.1.toNat+1)+1 from o_] at a4;exact⟨⟨⟨o_,o_,Ai6 a3 o_,AgC a4 _⟩,e1⟩,o_⟩)|skip)<;>have hT:=Ad0 a3 o_<;>(first|exact⟨o_,o_,(show runB 1000 _=_ by unfold runLoad;rw[<-hT]),Agu a4 o_⟩|skip)<;>(first|(obtain⟨⟨b1,b2,b3,b4⟩,f1⟩:=i8;obtain⟨yo,yi,yz⟩:=y8)|(obtain⟨⟨b1,b2,b3,b4⟩,f1⟩:=i14;obtain⟨yo,yi,yz⟩:=y14))<;>dsimp only at *<;>(first|omega|exact Ra b4|exact QA b4|exact AjJ b3 o_|(rw[AfN ‹_›] at b3;exact b3)|(rw[AiG ‹_› ‹_›] at b3;exact b3)|skip)<;>rw[Aw o_,show(yi+1).toNat=yi.toNat+1 from o_]<;>rw[show 1000-yi.toNat=1000-(yi.toNat+1)+1 from o_] at b3 b4<;>rw[Aiy ‹_› ‹_›] at b3<;>exact⟨⟨⟨o_,o_,b3,AgC b4 _⟩,f1⟩,o_⟩)
def wS (l:O_):Nat:=szL AjK l.conns+szL AhZ l.guesses
def okW (G:Nat) (l:O_):Prop:=okL G l/\wS l+5100000*G<=10000000000
def Akk {G H:Nat} {l:O_} (h:okW H l) (hle:G<=H):okW G l:=⟨Agu h.1 hle,by have:=h.2;omega⟩
def AhV (a:FS) (x:L_):okAll (newPage a x).1 2000000 1100000000 10000000/\Kp (newPage a x).1/\(newPage a x).1.addr.host.size<=2097152/\(newPage a x).1.tok.rest.size=0/\((newPage a x).2=true->isResponse x=true):=by
 unfold newPage;split
 ·rename_i h;obtain⟨h0,h1,_⟩:=h;rw[S_] at h0;have a1:=FL h0.1;have a2:=FL h0.2;have h2:=Kb h1;have hp:=Aem x.bm;have hx:x.bm.size<=Ab x:=Nat.le_add_left _ _;refine⟨U9 ?_,⟨⟨(λs hs=>nomatch (show s∈[] from hs)),(λs hs=>nomatch (show s∈[] from hs))⟩,(by decide:(-9223372036854775808:Int)<=0),(by decide:(0:Int)<=9223372036854775807)⟩,?_,rfl,λ_=>h1⟩
  ·show szAddr a+AD (parsePolicy x.bm).1+_+_+szBuilder newBuilder+_+_+_+_+_<=2000000;have e2:szBuilder newBuilder<=100:=by decide
   simp only[Ek,szL,List.map_nil,List.sum_nil,aU,szAddr];have e3:ByteArray.size (default:dj).rest=0:=rfl;omega
  ·show a.host.size<=2097152;omega
 ·refine⟨U9 (by decide),⟨⟨(λs hs=>nomatch (show s∈[] from hs)),(λs hs=>nomatch (show s∈[] from hs))⟩,(by decide:(-9223372036854775808:Int)<=0),(by decide:(0:Int)<=9223372036854775807)⟩,(by decide),rfl,λh=>by cases h⟩
def Ajd {n:N_} (h:szNet n<=1048576):okNg 1201 n:=by
 simp only[szNet] at h;refine⟨o_,o_,λe he=>?_,o_⟩;have:=HZ Bh (show e∈n.cache.bh from he);simp only[szCache] at h;simp only[Bh] at this;omega
def Abh {n:N_} {a:FS} (cs:List Int) (h:szNet n<=1048576) (ha:szAddr a<=1048576):okW 1200 (startLoad n a cs).1:=by
 have hh:a.host.size<=szAddr a:=cO _ _;have hf:=L8 (Ajd h) (t:=a.host) a false o_;obtain⟨p1,p2,p3,p4,p5⟩:=AhV a (fetchNow n a.host a false).2;have hcs:okCs []:=λc hc=>nomatch hc
 have hgs:okGs []:=λc hc=>nomatch hc
 unfold startLoad;split
 ·rename_i hb;have hr:=Kb (p5 hb);have hc:=Xv (fetchNow n a.host a false).2.body cs;have hx:(fetchNow n a.host a false).2.body.size<=Ab (fetchNow n a.host a false).2:=cO _ _;refine⟨⟨⟨_,_,_,p1,?_,?_,?_⟩,⟨p2,p3,?_⟩,⟨hcs,?_,?_,hgs⟩,hf⟩,?_⟩
  ·show 2000000+740000*0+8000000*1200<=889000000000;omega
  ·show 1100000000+600*0+250000*1200<=48000000000;omega
  ·show 10000000+20*0+10000*1200<=18000000000;omega
  ·show(newPage a (fetchNow n a.host a false).2).1.tok.rest.size+szL Ag (cutText (fetchNow n a.host a false).2.body cs)<=2900000;omega
  ·show 0<=1048576;omega
  ·show 0+0+1200<=4194304;omega
  ·show 0+0+5100000*1200<=10000000000;omega
 ·refine⟨⟨⟨2000000,1100000000,10000000,U9 (show Al (default:HO)<=2000000 by decide),?_,?_,?_⟩,⟨⟨⟨(λs hs=>nomatch (show s∈[] from hs)),(λs hs=>nomatch (show s∈[] from hs))⟩,(by decide:(-9223372036854775808:Int)<=0),(by decide:(0:Int)<=9223372036854775807)⟩,(show(default:HO).addr.host.size<=2097152 by decide),(show(default:HO).tok.rest.size+szL Ag []<=2900000 by decide)⟩,⟨hcs,?_,?_,hgs⟩,hf⟩,?_⟩
  ·show 2000000+740000*0+8000000*1200<=889000000000;omega
  ·show 1100000000+600*0+250000*1200<=48000000000;omega
  ·show 10000000+20*0+10000*1200<=18000000000;omega
  ·show 0<=1048576;omega
  ·show 0+0+1200<=4194304;omega
  ·show 0+0+5100000*1200<=10000000000;omega
def loadFast (n:N_) (a:FS) (cs ch:List Int):N_×HO×Bool:=if(startLoad n a cs).2=true then((runLoad (startLoad n a cs).1 ch).net,(runLoad (startLoad n a cs).1 ch).page,true) else((startLoad n a cs).1.net,default,false)
abbrev MG:Fct:=⟨[.v (.el .net),.v (.el .addr),.v (.sl .int),.v (.sl .int)],[.el .net,.el .page,.el .bool],λ(x:de)=>szNet x.1<=1048576/\szAddr x.2.1<=1048576/\x.2.2.1.length<=1048576/\x.2.2.2.1.length<=1048576,λ(x:de)=>((loadFast x.1 x.2.1 x.2.2.1 x.2.2.2.1).1,(loadFast x.1 x.2.1 x.2.2.1 x.2.2.2.1).2.1,(loadFast x.1 x.2.1 x.2.2.1 x.2.2.2.1).2.2,())⟩
def AnZ:=AnK.a MG<|Fct.o (KP [2,3,4,5,8,9,10,11,12,13] [22]) AnK.2 func6 (by
 rintro⟨(n:N_),(a:FS),(cs:List Int),(ch:List Int),_⟩ hp;refine ho (let J_:=(⟨#[]⟩:ByteArray);.cl OS (n,a,cs,()) λz2=>.br (!z2.2.1) (.leaf (.tup [(true,[.l Ty.server (z2.1.net.servers),.l Ty.entry (z2.1.net.cache.bh),.l Ty.sent (z2.1.net.log),vi (z2.1.net.now)]),(true,[vs J_,vs J_,vb (false),.nl,.nl,.nl,vs J_,vs J_,.nl,vb (false),.nl,.nl,.nl,.nl,.nl,vi ((0:Int)),vi ((0:Int)),vi ((0:Int)),vi ((0:Int)),.nl,.nl,vb (false)]),(false,[vb (false)])]) [] []) (.cl Qt (z2.1,ch,()) λz3=>let H_:Out:=.lf MG (z3.1.net,z3.1.page,true,());.lp (Bool) (True) (λx=>True) λy4=>.br (y4) (.lp (Bool) (True) (λx=>True) λy6=>.br (y6) H_ H_) H_)) ?_;refine Cu ?_ λo1 z2 ez2=>(Aa (λh2=>Fct.leafZ (z2.fst.net,default,false,()) (by repeat' first|exact rfl|exact trivial|refine And.intro ?_ ?_) ?_) λh2=>Cu ?_ λo3 z3 ez3=>Ju trivial λy4 i4=>Aa (λh5=>Ju trivial λy6 i6=>Aa (λh7=>lfY ?_) λh7=>lfY ?_) λh5=>lfY ?_)<;>subst_vars<;>obtain⟨q1,q2,q3,q4⟩:=(show szNet n<=1048576/\szAddr a<=1048576/\cs.length<=1048576/\ch.length<=1048576 from hp)<;>(try simp only[AA] at *)<;>(try simp only[std,Nat.reduceAdd] at *)<;>have hw:=Akk (G:=1100) (Abh cs q1 q2) o_<;>(first|trivial|omega|exact⟨q1,q2,q3⟩|exact⟨hw.1,q4⟩|skip)<;>unfold loadFast<;>(first|rw[G_ ‹_›]|rw[F_ (by intro q;simp_all)])<;>exact⟨rfl,rfl,rfl⟩)
abbrev LJ:Xct:=⟨[.u,.v (.sl .str)],[.el .str],λ(x:dq)=>0<x.2.1.length/\x.2.1.length<=256/\x.2.1.all (λs=>decide (s.size<=150))=true,λ(x:dq) (y:D_)=>y.1.size<=150⟩
def Amv:=AnZ.X LJ<|Xct.o [0,1,4] AnZ.2 func49 (by
 rintro⟨(c:PUnit),(l:List ByteArray),_⟩ hp;refine ho (.dr Bc ((),(↑(List.length l):Int),()) λ(y1:E_)=>.ob (0<=y1.1/\y1.1<(↑(List.length l):Int))<|.lx LJ (List.getD l y1.1.toNat default,())) ?_;refine Bn trivial λ(y1:E_) i1=>Ac ?_ λ_=>lxY ?_<;>(try simp only[AA] at *)<;>(try simp only[std,Nat.reduceAdd] at *)<;>(first|trivial|omega|skip)
 have hm:=Ae (i:=y1.fst.toNat) (l:=l) o_;simpa using aH.1 hp.2.2 _ hm)
abbrev TS:Xct:=⟨[.u],[.el .str],λ(x:W_)=>True,λ(x:W_) (y:D_)=>y.1.size<=2000⟩
abbrev Dn (c:Unit):LInv:=⟨[⟨.s,3,true,.el .str⟩,⟨.s,4,true,.el .int⟩],λ_ (x:aa)=>0<=x.2.1/\x.2.1<=5/\x.1.size+150*x.2.1<=1000,λ(x:aa)=>x.2.1.toNat⟩
def AmQ:=Amv.X TS<|Xct.p (KP [0,2,3,4] [11]) (λ⟨c,_⟩=>lv [(3,Dn c)]) Amv.2 func43 (by
 rintro⟨(c:PUnit),_⟩ hp;refine ho (let M_:=(⟨#[60,47,115,99,114,105,112,116,62]⟩:ByteArray);let J_:=(⟨#[]⟩:ByteArray);let H_:=(⟨#[60,115,99,114,105,112,116,62]⟩:ByteArray);.dr LJ ((),[J_,(⟨#[60,112,62,104,105,60,47,112,62]⟩:ByteArray),(⟨#[60,108,105,110,107,32,104,114,101,102,61,115,116,121,108,101,62]⟩:ByteArray)],()) λ(y2:D_)=>.dr Bc ((),(6:Int),()) λ(y3:E_)=>lpx (Dn c) (y2.1,(y3.1,())) λ(y4:aa) bk4=>.br (decide (y4.2.1>0)) (.dr WF ((),(2:Int),()) λ(y7:D_)=>.ob (sameSize H_ y7.1)<|.ob (sameSize (H_++y7.1) M_)<|.dr LJ ((),[(⟨#[60,115,99,114,105,112,116,32,115,114,99,61,97,112,112,62,60,47,115,99,114,105,112,116,62]⟩:ByteArray),H_++y7.1++M_,(⟨#[60,115,99,114,105,112,116,32,115,114,99,61,99,100,110,47,108,105,98,62,60,47,115,99,114,105,112,116,62]⟩:ByteArray),(⟨#[60,115,99,114,105,112,116,32,115,114,99,61,117,116,105,108,32,107,105,110,100,61,109,111,100,117,108,101,62,60,47,115,99,114,105,112,116,62]⟩:ByteArray),(⟨#[60,115,99,114,105,112,116,32,115,114,99,61,108,105,98,32,107,105,110,100,61,100,101,102,101,114,62,60,47,115,99,114,105,112,116,62]⟩:ByteArray),(⟨#[60,105,109,103,32,115,114,99,61,108,111,103,111,62]⟩:ByteArray),(⟨#[60,108,105,110,107,32,104,114,101,102,61,99,100,110,47,115,116,121,108,101,62]⟩:ByteArray),(⟨#[60,112,62,120,60,47,112,62]⟩:ByteArray),(⟨#[60,98,62]⟩:ByteArray),(⟨#[60,115,99,114,105,112,116,32,110,111,110,99,101,61,110,55,62,115,97,121,32,110,60,47,115,99,114,105,112,116,62]⟩:ByteArray),(⟨#[60,115,99,114,105,112,116,32,115,114,99,61,101,118,105,108,47,97,112,112,62,60,47,115,99,114,105,112,116,62]⟩:ByteArray),(⟨#[116,101,120,116]⟩:ByteArray)],()) λ(y11:D_)=>.ob (sameSize y4.1 y11.1)<|.re (Value.string J_)<|.bk (bk4 (y4.1++y11.1,(wr (y4.2.1-(1:Int)),())))) (.dr LJ ((),[J_,J_,(⟨#[60,112,62,101,110,100,60,47,112,62]⟩:ByteArray),(⟨#[60,112]⟩:ByteArray)],()) λ(y15:D_)=>.ob (sameSize y4.1 y15.1)<|.lx TS (y4.1++y15.1,()))) ?_;refine BA ?_ λo1 (y2:D_) i2=>Bn trivial λ(y3:E_) i3=>Aq ?_ λ(y4:aa) i4=>Aa (λh5=>BA ?_ λo6 (y7:D_) i7=>Ac ?_ λ_=>Ac ?_ λ_=>BA ?_ λo10 (y11:D_) i11=>Ac ?_ λ_=>An<|AR ?_) (λh5=>BA ?_ λo14 (y15:D_) i15=>Ac ?_ λ_=>lxY ?_)<;>(first|trivial|(refine⟨?_,?_,?_⟩<;>decide)|skip)<;>(try simp only[AA] at *)<;>(try simp only[std,Nat.reduceAdd,sameSize,aN,List.all_cons,List.all_nil] at *)<;>(try simp only[AA] at *)<;>(try simp only[std,Nat.reduceAdd,sameSize,aN] at *)<;>(try simp(disch:=omega) only[A_,C_] at *)<;>(try simp(disch:=omega) only[G_,F_])<;>(first|trivial|omega|grind[A_,C_,B_,K_,I_,maxLen,sameSize,ByteArray.size_append]))
abbrev AaI:Xct:=⟨[.u],[.el .addr],λ(x:W_)=>True,λ(x:W_) (y:au)=>y.1.host.size<=150/\y.1.path.size<=150⟩
def Anj:=AmQ.X AaI<|Xct.o (KP [0,2,3,7] [8,14]) AmQ.2 func169 (by
 rintro⟨(c:PUnit),_⟩ hp;refine ho (.dr SC ((),()) λ(y1:au)=>.dr Bc ((),(12:Int),()) λ(y2:E_)=>.br (y2.1==0) (.dr LJ ((),[(⟨#[]⟩:ByteArray),(⟨#[65]⟩:ByteArray),(⟨#[97,98,99,100,101,102,103,104,105]⟩:ByteArray),(⟨#[97,98,99,100,101,102,103,104]⟩:ByteArray)],()) λ(y5:D_)=>.lx AaI (⟨y5.1,y1.1.path⟩,())) (.br (y2.1==1) (.dr LJ ((),[(⟨#[]⟩:ByteArray),(⟨#[97,47,98]⟩:ByteArray),(⟨#[97,49]⟩:ByteArray)],()) λ(y8:D_)=>.lx AaI (⟨y1.1.host,y8.1⟩,())) (.lx AaI (y1.1,())))) ?_;refine Bn trivial λ(y1:au) i1=>Bn trivial λ(y2:E_) i2=>Aa (λh3=>BA ?_ λo4 (y5:D_) i5=>lxY ?_) (λh3=>Aa (λh6=>BA ?_ λo7 (y8:D_) i8=>lxY ?_) λh6=>lxY ?_)<;>(try simp only[AA] at *)<;>(try simp only[std,Nat.reduceAdd] at *)<;>(first|trivial|omega|decide|exact⟨by decide,by decide,by decide⟩|exact⟨o_,o_⟩|exact⟨o_,o_,o_⟩|skip))
def wdsL (l:List ByteArray):List UInt8:=(l.map λx=>32::toL x).flatten
def QX:∀ (l:List ByteArray) (w:ByteArray),toL (words9 w l)=toL w++wdsL l
 | [],w=>by simp[words9,wdsL]
 | x::l,w=>by rw[words9,QX l,Au,Au];simp[wdsL,toL]
def V4:∀ (l:List ByteArray) (p:List UInt8),(32:UInt8)∉p->(∀ x,x∈l->(32:UInt8)∉toL x)->LX 32 (p++wdsL l)=p::l.map toL
 | [],p,hp,_=>by simp[wdsL,JW hp]
 | x::l,p,hp,h=>by
  have e:p++wdsL (x::l)=p++32::(toL x++wdsL l):=by simp[wdsL]
  rw[e,GX _ hp,V4 l (toL x) (h x cW) λy hy=>h y (cT _ hy)];rfl
def Kv {p:UInt8->Bool} {b:UInt8} {l:List UInt8} (h:l.all p=true) (hb:p b=false):b∉l:=λq=>by
 have:=aH.1 h b q;rw[hb] at this;cases this
def Wy {s:ByteArray} (h:isName s=true):(32:UInt8)∉toL s/\(59:UInt8)∉toL s:=by
 unfold isName allB at h;rw[S_] at h;exact⟨Kv h.1 (by decide),Kv h.1 (by decide)⟩
def AiO {s:ByteArray} (h:isValue s=true):(59:UInt8)∉toL s:=by
 unfold isValue allB at h;rw[S_] at h;exact Kv h.1 (by decide)
def Nt {w:ByteArray} {l:List ByteArray} (hw:(32:UInt8)∉toL w) (h:l.all isName=true):(spl 32 (words9 w l)).drop 1=l:=by
 unfold spl;rw[QX,V4 l _ hw λx hx=>(Wy (aH.1 h x hx)).1,bz,List.drop_succ_cons,fI,ee]
 conv=>rhs;rw[<-List.map_id l]
 exact List.map_congr_left λx _=>AH x
def T4 {w:ByteArray} {l:List ByteArray} (hw:(59:UInt8)∉toL w) (h:l.all isName=true):(59:UInt8)∉toL (words9 w l):=by
 rw[QX];intro q;rcases ae.1 q with q|q
 ·exact hw q
 ·simp only[wdsL,List.mem_flatten,bG] at q;obtain⟨m,⟨x,hx,rfl⟩,q⟩:=q;rcases ah.1 q with q|q
  ·exact absurd q (by decide)
  ·exact(Wy (aH.1 h x hx)).2 q
def Aln {a b c:ByteArray} (ha:(59:UInt8)∉toL a) (hb:(59:UInt8)∉toL b) (hc:(59:UInt8)∉toL c):spl 59 (a++⟨#[59]⟩++b++⟨#[59]⟩++c)=[a,b,c]:=by
 have e:toL (a++⟨#[59]⟩++b++⟨#[59]⟩++c)=toL a++59::(toL b++59::toL c):=by simp[toL]
 unfold spl;rw[e,GX _ ha,GX _ hb,JW hc];simp[AH]
def AlC {a b c d:ByteArray} (ha:(59:UInt8)∉toL a) (hb:(59:UInt8)∉toL b) (hc:(59:UInt8)∉toL c) (hd:(59:UInt8)∉toL d):spl 59 (a++⟨#[59]⟩++b++⟨#[59]⟩++c++⟨#[59,110,111,110,99,101,32]⟩++d)=[a,b,c,⟨#[110,111,110,99,101,32]⟩++d]:=by
 have e:toL (a++⟨#[59]⟩++b++⟨#[59]⟩++c++⟨#[59,110,111,110,99,101,32]⟩++d)=toL a++59::(toL b++59::(toL c++59::toL (⟨#[110,111,110,99,101,32]⟩++d))):=by simp[toL]
 have hn:(59:UInt8)∉toL (⟨#[110,111,110,99,101,32]⟩++d):=by
  rw[Au];intro q;rcases ae.1 q with q|q
  ·exact absurd q (by decide)
  ·exact hd q
 unfold spl;rw[e,GX _ ha,GX _ hb,GX _ hc,JW hn];simp[AH]
def HX {p:aQ} (h:isPolicy p=true):(parsePolicy (formatPolicy p)).2=true:=by
 cases hs:p.set_ with
 | false=>
  have e:formatPolicy p=⟨#[]⟩:=by unfold formatPolicy;rw[F_ (by rw[hs,Bool.and_false];exact Bool.false_ne_true)]
  unfold parsePolicy;rw[G_ e]
 | true=>
  have h0:=h;simp only[isPolicy,hs,aC,S_,db,av] at h;obtain⟨⟨⟨⟨a1,a2⟩,a3,a4⟩,a5,a6⟩,a7⟩:=h;have k1:=T4 (w:=⟨#[115,99,114,105,112,116]⟩) (by decide) a1;have k2:=T4 (w:=⟨#[115,116,121,108,101]⟩) (by decide) a3;have k3:=T4 (w:=⟨#[105,109,103]⟩) (by decide) a5;have d1:=Nt (w:=⟨#[115,99,114,105,112,116]⟩) (by decide) a1;have d2:=Nt (w:=⟨#[115,116,121,108,101]⟩) (by decide) a3;have d3:=Nt (w:=⟨#[105,109,103]⟩) (by decide) a5;have key:3<=(spl 59 (formatPolicy p)).length/\polCand (formatPolicy p)=p/\0<(formatPolicy p).size:=by
   by_cases hn:p.nonce=⟨#[]⟩
   ·have e:formatPolicy p=words9 ⟨#[115,99,114,105,112,116]⟩ p.bt++⟨#[59]⟩++words9 ⟨#[115,116,121,108,101]⟩ p.styles++⟨#[59]⟩++words9 ⟨#[105,109,103]⟩ p.images:=by unfold formatPolicy;rw[G_ (by rw[h0,hs];rfl),G_ hn]
    have e2:=Aln k1 k2 k3;rw[e];refine⟨by rw[e2];simp,?_,?_⟩
    ·unfold polCand;rw[e2];simp only[List.getD_cons_zero,List.getD_cons_succ,aq,aU,d1,d2,d3];rw[F_ o_,<-hn,<-hs]
    ·rw[aN,aN,aN,aN,show ByteArray.size ⟨#[59]⟩=1 from rfl];omega
   ·have hv:isValue p.nonce=true:=by rcases a7 with q|q;exact absurd q hn;exact q
    have hz:0<p.nonce.size:=by simp only[isValue,S_,av] at hv;omega
    have e:formatPolicy p=words9 ⟨#[115,99,114,105,112,116]⟩ p.bt++⟨#[59]⟩++words9 ⟨#[115,116,121,108,101]⟩ p.styles++⟨#[59]⟩++words9 ⟨#[105,109,103]⟩ p.images++⟨#[59,110,111,110,99,101,32]⟩++p.nonce:=by unfold formatPolicy;rw[G_ (by rw[h0,hs];rfl),F_ hn]
    have e2:=AlC k1 k2 k3 (AiO hv);rw[e];have e3:(⟨#[110,111,110,99,101,32]⟩++p.nonce:ByteArray).size=6+p.nonce.size:=by rw[aN];rfl
    refine⟨by rw[e2];simp,?_,?_⟩
    ·unfold polCand;rw[e2];simp only[List.getD_cons_zero,List.getD_cons_succ,aq,aU,d1,d2,d3,e3];rw[G_ ⟨o_,o_⟩];have e4:(⟨#[110,111,110,99,101,32]⟩++p.nonce:ByteArray).extract 6 (6+p.nonce.size)=p.nonce:=by rw[<-AH ((⟨#[110,111,110,99,101,32]⟩++p.nonce:ByteArray).extract 6 (6+p.nonce.size)),Az,Au];have e5:toL (⟨#[110,111,110,99,101,32]⟩:ByteArray)=[110,111,110,99,101,32]:=rfl;rw[e5,ci (by rw[ak,AN];exact Y_ _)];show ofL (toL p.nonce)=_;exact AH _
     rw[e4,<-hs]
    ·rw[aN];omega
  obtain⟨q1,q2,q3⟩:=key;unfold parsePolicy;rw[F_ (λq=>by rw[q] at q3;exact absurd q3 (by decide)),G_ ⟨q1,by rw[q2]⟩]
abbrev BQ:Xct:=⟨[.u,.v (.el .int)],[.el .bd],λ(x:az)=>1<=x.2.1/\x.2.1<=5,λ(x:az) (y:al)=>isResponse y.1=true/\y.1.status=200/\y.1.body.size<=400/\y.1.bm.size<=200⟩
def Amp:=Anj.X BQ<|Xct.o (KP [0,1,4,5] [17]) Anj.2 func82 (by
 rintro⟨(c:PUnit),(k:Int),_⟩ hp;refine ho (.dr HG ((),k,()) λ(y1:D_)=>.dr Mm ((),[(0:Int),(5:Int),(50:Int)],()) λ(y3:E_)=>.dr Fv ((),(2:Int),()) λ(y4:U_)=>.br (k==1) (.dr EW ((),()) λ(y6:aS)=>.cl AG (y6.1,()) λz2=>.lx BQ (⟨(200:Int),k,y1.1,y3.1,y4.1,z2.1⟩,())) (.lx BQ (⟨(200:Int),k,y1.1,y3.1,y4.1,(⟨#[]⟩:ByteArray)⟩,()))) ?_;refine Bn trivial λ(y1:D_) i1=>BA ?_ λo2 (y3:E_) i3=>Bn trivial λ(y4:U_) i4=>Aa (λh5=>Bn trivial λ(y6:aS) i6=>Cu ?_ λo7 z2 ez2=>lxY ?_) (λh5=>lxY ?_)<;>(try subst_vars)<;>(try have q:=Fl i6)<;>(try have q2:=BV y6.1)<;>(try have q3:=HX i6)<;>(try simp only[AA] at *)<;>(try simp only[std,Nat.reduceAdd] at *)<;>(try simp only[ah,fZ,or_false] at *)<;>(first|omega|decide|skip)<;>simp only[isResponse,inRange,S_,av]<;>(first|exact⟨⟨⟨o_,o_⟩,hp,o_,⟨o_,o_⟩,q3⟩,trivial,o_,o_⟩|exact⟨⟨⟨o_,o_⟩,hp,o_,⟨o_,o_⟩,rfl⟩,trivial,o_,by decide⟩|exact⟨⟨⟨o_,o_⟩,hp,o_,⟨o_,o_⟩,q3⟩,o_,o_⟩|exact⟨⟨⟨o_,o_⟩,hp,o_,⟨o_,o_⟩,rfl⟩,o_,by decide⟩|skip))
def srvOk (l:List aD) (i:Nat):Bool:=isName (l.getD i default).path&&(isResponse (l.getD i default).bd&&(List.range i).all λk=>!decide ((l.getD k default).path=(l.getD i default).path))
def isServer (s:V_):Bool:=(List.range s.files.length).all (srvOk s.files)&&(isName s.host&&decide (s.files.length<=10))
def VR {f:Nat->Bool} {n:Nat} (h:(List.range n).all f=true) (h2:f n=true):(List.range (n+1)).all f=true:=by rw[List.range_succ,List.all_append,h];simp[h2]
def AgM {f:Nat->Bool} {n m:Nat} (h:m<n) (h2:f m=false):(List.range n).all f=false:=by
 rw[Bool.eq_false_iff];intro q;rw[aH.1 q m (eA.2 h)] at h2;cases h2
def Vh {s:V_} {i:Nat} (h:i<s.files.length) (h2:srvOk s.files i=false):isServer s=false:=by
 unfold isServer;rw[AgM h h2];rfl
def QU {α:Type} [Inhabited α] (f:α->Nat) (g:α->α) (k:Nat):∀ (l:List α) (i:Nat),(i<l.length->f (g (l.getD i default))<=f (l.getD i default)+k)->szL f (l.modify i g)<=szL f l+k:=by
 intro l
 induction l with
 | nil=>intro i _;cases i<;>exact cO _ _
 | cons x l ih=>
  intro i h;cases i with
  | zero=>
   have h2:f (g x)<=f x+k:=h (by simp);show szL f (g x::l)<=_;rw[Ah,Ah];omega
  | succ i=>
   have h2:=ih i λq=>h (by simpa using q);show szL f (x::l.modify i g)<=_;rw[Ah,Ah];omega
def Qe (L:List V_) (n k:Nat) (x:L_):szL Af (L.modify n λz=>{ host:=z.host,files:=(L.getD n default).files.modify k λz=>{ path:=z.path,bd:=x }})<=szL Af L+Ab x:=by
 refine QU _ _ _ _ _ λh=>?_
 have h2:=QU Gq (λz=>{ path:=z.path,bd:=x }) (Ab x) (L.getD n default).files k (λ_=>by simp only[Gq];omega);simp only[Af] at *;omega
def Nj (L:List V_) (n:Nat) (p:ByteArray) (x:L_):szL Af (L.modify n λz=>{ host:=z.host,files:=(L.getD n default).files++[{ path:=p,bd:=x }]})<=szL Af L+(p.size+Ab x+1):=by
 refine QU _ _ _ _ _ λh=>?_
 have h2:szL Gq [({ path:=p,bd:=x }:aD)]=p.size+Ab x+1:=by simp[szL,Gq];omega
 simp only[Af,Vg,h2];omega
def SQ (L:List V_) (n:Nat):Af (L.getD n default)<=szL Af L:=by
 rcases Nat.lt_or_ge n L.length with h|h
 ·have:=Ct Af h;omega
 ·rw[aV,List.getElem?_eq_none h];exact Nat.zero_le _
def HA (L:List V_) (n:Nat):(L.getD n default).files.length<=szL Af L:=by
 have h1:=SQ L n;have h2:=Ad Gq (L.getD n default).files;simp only[Af] at h1;omega
def Tq (h:ByteArray) (l:List V_):szL Af (l++[{ host:=h,files:=[]}])=szL Af l+h.size+1:=by
 rw[Vg];simp[szL,Af];omega
def TF {s:V_} {i:Nat} (h:i<s.files.length) (h2:srvOk s.files i=false):false=isServer s:=(Vh h h2).symm
def Aks {l:List aD} {i:Nat} (h:isName (l.getD i default).path=false):srvOk l i=false:=by unfold srvOk;rw[h];rfl
def AjD {l:List aD} {i:Nat} (h:isResponse (l.getD i default).bd=false):srvOk l i=false:=by unfold srvOk;rw[h,Bool.false_and,Bool.and_false]
def AjP {l:List aD} {i k:Nat} (hk:k<i) (h:(l.getD k default).path=(l.getD i default).path):srvOk l i=false:=by
 unfold srvOk;rw[AgM hk (by rw[bR h];rfl),Bool.and_false,Bool.and_false]
def Akr {l:List aD} {i:Nat} (h1:isName (l.getD i default).path=true) (h2:isResponse (l.getD i default).bd=true) (h3:((List.range i).all λk=>!decide ((l.getD k default).path=(l.getD i default).path))=true):srvOk l i=true:=by unfold srvOk;rw[h1,h2,h3];rfl
def Ahm {s:V_} {i:Nat} (h:i=s.files.length) (h2:(List.range i).all (srvOk s.files)=true):isServer s=(isName s.host&&decide (s.files.length<=10)):=by unfold isServer;rw[<-h,h2,Bool.true_and]
abbrev Be:Fct:=⟨[.v (.el .server)],[.el .bool],λ(x:V_×Unit)=>Af x.1<=200000000,λ(x:V_×Unit)=>(isServer x.1,())⟩
abbrev Cv (s:V_):LInv:=⟨[⟨.s,3,true,.el .int⟩,⟨.b,1,false,.el .server⟩],λ(z x:dw)=>(0<=x.1/\x.1<=s.files.length/\(List.range x.1.toNat).all (srvOk s.files)=true)/\x.2.1=z.2.1,λ(x:dw)=>s.files.length-x.1.toNat⟩
abbrev Cy (s:V_):LInv:=⟨[⟨.s,4,true,.el .int⟩,⟨.s,3,true,.el .int⟩,⟨.b,1,false,.el .server⟩],λ(z x:dW)=>(x.2.1=z.2.1/\0<=x.1/\x.1<=x.2.1/\((List.range x.1.toNat).all λj=>!decide ((s.files.getD j default).path=(s.files.getD x.2.1.toNat default).path))=true)/\x.2.2.1=z.2.2.1,λ(x:dW)=>(x.2.1-x.1).toNat⟩
def Amq:=Amp.a Be<|Fct.p (KP [1,2,3,4] [9,29,32,47]) (λ⟨s,_⟩=>λ|2=>some (Cv s)|7=>some (Cy s)|_=>none) Amp.2 func91 (by
 rintro⟨(s:V_),_⟩ hp;refine ho (lpx (Cv s) ((0:Int),(s,())) λ(y1:dw) bk1=>.br (decide (y1.1<(y1.2.1.files.length:Int))) (.ob (inB y1.1 y1.2.1.files.length)<|.cl CA ((y1.2.1.files.getD y1.1.toNat default).path,()) λz2=>.br (!z2.1) (.lf Be (false,())) (.ob (inB y1.1 y1.2.1.files.length)<|.cl Bj ((y1.2.1.files.getD y1.1.toNat default).bd,()) λz3=>.br (!z3.1) (.lf Be (false,())) (lpx (Cy s) ((0:Int),(y1.1,(y1.2.1,()))) λ(y9:dW) bk9=>.br (decide (y9.1<y9.2.1)) (.ob (inB y9.1 y9.2.2.1.files.length)<|.ob (inB y9.2.1 y9.2.2.1.files.length)<|.br ((y9.2.2.1.files.getD y9.1.toNat default).path.toList==(y9.2.2.1.files.getD y9.2.1.toNat default).path.toList) (.lf Be (false,())) (.bk (bk9 (w1 y9.1,(y9.2.1,(y9.2.2.1,())))))) (.bk (bk1 (w1 y9.2.1,(y9.2.2.1,()))))))) (.cl CA (y1.2.1.host,()) λz4=>.br (z4.1) (.lf Be (decide ((y1.2.1.files.length:Int)<=10),())) (.lf Be (false,())))) ?_;refine Aq ?_ λ(y1:dw) i1=>Aa (λh2=>Ac ?_ λ_=>Aj ?_ λ_=>Aa (λh5=>lfY ?_) λh5=>Ac ?_ λ_=>Aj ?_ λ_=>Aa (λh8=>lfY ?_) λh8=>Aq ?_ λ(y9:dW) i9=>Aa (λh10=>Ac ?_ λ_=>Ac ?_ λ_=>Aa (λh13=>lfY ?_) λh13=>AR ?_) λh10=>AR ?_) (λh2=>Aj ?_ λ_=>Aa (λh17=>lfY ?_) λh17=>lfY ?_)<;>(have hl:=Ad Gq s.files;have hs:Af s=s.host.size+szL Gq s.files:=rfl;have hg:=λ(i:Nat) (h:i<s.files.length)=>Ct Gq h)<;>(try simp only[AA] at *)<;>(try simp only[std,Nat.reduceAdd] at *)<;>(try obtain⟨⟨j1,j2,j3⟩,e1⟩:=i1;simp only[e1] at *)<;>(try obtain⟨⟨k1,k2,k3,k4⟩,e9⟩:=i9;simp only[e9,k1] at *)<;>(first|omega|exact⟨o_,o_,rfl⟩|exact⟨o_,o_⟩|skip)<;>(first|(have q:=hg y1.1.toNat o_;simp only[Gq,Ab] at q;omega)|skip)<;>(first|exact TF (i:=y1.1.toNat) o_ (Aks ‹_›)|exact TF (i:=y1.1.toNat) o_ (AjD ‹_›)|exact TF (i:=y1.1.toNat) o_ (AjP (k:=y9.1.toNat) o_ ‹_›)|skip)<;>(try simp(disch:=omega) only[A_,C_] at *)<;>(first|exact⟨⟨⟨by first|rfl|trivial,o_,o_,VR k4 (by rw[ey ‹_›];rfl)⟩,by first|rfl|trivial⟩,o_⟩|skip)<;>(try have q9:y9.1.toNat=y1.1.toNat:=o_)<;>(try rw[q9] at k4)<;>(first|exact⟨⟨⟨o_,o_,VR j3 (Akr ‹_› ‹_› k4)⟩,by first|rfl|trivial⟩,o_⟩|skip)<;>(try rw[Ahm (i:=y1.1.toNat) o_ j3])<;>(first|(simp_all;done)|(simp_all;omega)|skip))
def okF (l:List V_):Prop:=∀ v,v∈l->∀ f,f∈v.files->f.bd.body.size<=400
def VB {x:L_} (h:isResponse x=true):x.body.size<=400:=by
 simp only[isResponse,S_,av] at h;exact h.2.2.1
def Ahq {s:V_} (h:isServer s=true):∀ f,f∈s.files->f.bd.body.size<=400:=λf hf=>by
 obtain⟨i,hi,rfl⟩:=List.mem_iff_getElem.1 hf;unfold isServer at h;rw[S_] at h;have q:=aH.1 h.1 i (eA.2 hi);unfold srvOk at q;simp only[S_] at q;have:=VB q.2.1;rw[aV,aG hi] at this;exact this
def O7 {α:Type} [Inhabited α] {f:α->α} {m:α}:∀ {l:List α} {i:Nat},m∈l.modify i f->m∈l\/m=(l.modify i f).getD i default
 | [],0,h=>.inl h
 | [],_+1,h=>.inl h
 | z::l,0,h=>by
  rcases ah.1 (show m∈f z::l from h) with q|q
  ·exact .inr q
  ·exact .inl (cT _ q)
 | z::l,i+1,h=>by
  rcases ah.1 (show m∈z::l.modify i f from h) with q|q
  ·exact .inl (q▸cW)
  ·rcases O7 q with q|q
   ·exact .inl (cT _ q)
   ·exact .inr q
def PL {L:List V_} {k:Nat} {g:V_->V_} (h:okF L) (hs:isServer ((L.modify k g).getD k default)=true):okF (L.modify k g):=λv hv=>by
 rcases O7 hv with q|q
 ·exact h v q
 ·rw[q];exact Ahq hs
def Abm {L:List V_} (h:okF L) (x:ByteArray):okF (L++[{ host:=x,files:=[]}]):=λv hv=>by
 rcases ae.1 hv with q|q
 ·exact h v q
 ·rw[List.mem_singleton.1 q];exact λf hf=>nomatch hf
abbrev BI:Xct:=⟨[.v (.sl .server),.v (.el .addr),.v (.el .bd)],[.sl .server,.el .bool],λ(x:dF)=>szL Af x.1<=100000000/\szAddr x.2.1<=1000/\Ab x.2.2.1<=10000,λ(x:dF) (y:T_)=>szL Af y.1<=szL Af x.1+szAddr x.2.1+Ab x.2.2.1+10/\x.1.length<=y.1.length/\(isName x.2.1.host=true/\isName x.2.1.path=true/\isResponse x.2.2.1=true->0<y.1.length)/\(okF x.1->okF y.1)⟩
def Am6:=Amq.X BI<|Xct.o (KP [0,4,5,6,7,8,9,10] [18,35,70]) Amq.2 func47 (by
 rintro⟨(l:List V_),(a:FS),(x:L_),_⟩ hp;refine ho (let aK:=(⟨a.host,[]⟩:V_);let ax:=List V_;let ar:=(⟨a.path,x⟩:aD);let M_:=(↑(List.length l):Int);let H_:Out:=.cl CH (l,()) λz7=>.lx BI (z7.1,false,());.cl CH (l,()) λz2=>let J_:=z2.1++[aK];let Z_:=J_.getD M_.toNat default;.cl Gi (l,a.host,()) λ(z3:E_)=>let R_:=z2.1.getD z3.1.toNat default;.br (decide (z3.1<0)) (.ob (IJ (z2.1.length+[aK].length) 40)<|.ix M_ (J_.length)<|.cl HP (J_.getD M_.toNat default,a.path,()) λ(z4:E_)=>.br (decide (z4.1>=0)) (.ix M_ (J_.length)<|.ix z4.1 (Z_.files.length)<|.lt (List aD) (Z_.files.modify z4.1.toNat λz=>(⟨z.path,x⟩:aD)) λz5=>.lt ax (J_.modify M_.toNat λz=>(⟨z.host,z5⟩:V_)) λz6=>.br (decide ((z6.length:Int)>4)) H_ (.ix M_ z6.length<|.cl Be (z6.getD M_.toNat default,()) λz8=>.br (!z8.1) H_ (.lx BI (z6,true,())))) (.ix M_ (J_.length)<|.ap (Z_.files.length+[ar].length) 80<|.ob ((0:Int)<=M_/\M_<(J_.length:Int))<|.re (M_.toNat)<|.lt ax (J_.modify M_.toNat λz=>(⟨z.host,Z_.files++[ar]⟩:V_)) λz10=>.br (decide ((z10.length:Int)>4)) H_ (.ix M_ z10.length<|.cl Be (z10.getD M_.toNat default,()) λz12=>.br (!z12.1) H_ (.lx BI (z10,true,()))))) (.ix z3.1 z2.1.length<|.cl HP (z2.1.getD z3.1.toNat default,a.path,()) λ(z14:E_)=>.br (decide (z14.1>=0)) (.ix z3.1 z2.1.length<|.ix z14.1 (R_.files.length)<|.lt (List aD) (R_.files.modify z14.1.toNat λz=>(⟨z.path,x⟩:aD)) λz15=>.lt ax (z2.1.modify z3.1.toNat λz=>(⟨z.host,z15⟩:V_)) λz16=>.br (decide ((z16.length:Int)>4)) H_ (.ix z3.1 z16.length<|.cl Be (z16.getD z3.1.toNat default,()) λz18=>.br (!z18.1) H_ (.lx BI (z16,true,())))) (.ix z3.1 z2.1.length<|.ap (R_.files.length+[ar].length) 80<|.ob (inB z3.1 z2.1.length)<|.re (z3.1.toNat)<|.lt ax (z2.1.modify z3.1.toNat λz=>(⟨z.host,R_.files++[ar]⟩:V_)) λz20=>.br (decide ((z20.length:Int)>4)) H_ (.ix z3.1 z20.length<|.cl Be (z20.getD z3.1.toNat default,()) λz22=>.br (!z22.1) H_ (.lx BI (z20,true,())))))) ?_;refine Cu ?_ λo1 z2 ez2=>(Cu ?_ λo2 z3 ez3=>Aa (λh3=>Ac ?_ λ_=>CW ?_ λo5 o6=>Cu ?_ λo7 z4 ez4=>Aa (λh8=>CW ?_ λo9 o10=>CW ?_ λo11 o12=>YA λz5 ez5=>YA λz6 ez6=>Aa (λh13=>Cu ?_ λo14 z7 ez7=>lxY ?_) λh13=>CW ?_ λo15 o16=>Cu ?_ λo17 z8 ez8=>Aa (λh18=>Cu ?_ λo19 z9 ez9=>lxY ?_) λh18=>lxY ?_) λh8=>CW ?_ λo20 o21=>EG ?_ λ_=>Ac ?_ λ_=>An<|YA λz10 ez10=>Aa (λh24=>Cu ?_ λo25 z11 ez11=>lxY ?_) λh24=>CW ?_ λo26 o27=>Cu ?_ λo28 z12 ez12=>Aa (λh29=>Cu ?_ λo30 z13 ez13=>lxY ?_) λh29=>lxY ?_) λh3=>CW ?_ λo31 o32=>Cu ?_ λo33 z14 ez14=>Aa (λh34=>CW ?_ λo35 o36=>CW ?_ λo37 o38=>YA λz15 ez15=>YA λz16 ez16=>Aa (λh39=>Cu ?_ λo40 z17 ez17=>lxY ?_) λh39=>CW ?_ λo41 o42=>Cu ?_ λo43 z18 ez18=>Aa (λh44=>Cu ?_ λo45 z19 ez19=>lxY ?_) λh44=>lxY ?_) λh34=>CW ?_ λo46 o47=>EG ?_ λ_=>Ac ?_ λ_=>An<|YA λz20 ez20=>Aa (λh50=>Cu ?_ λo51 z21 ez21=>lxY ?_) λh50=>CW ?_ λo52 o53=>Cu ?_ λo54 z22 ez22=>Aa (λh55=>Cu ?_ λo56 z23 ez23=>lxY ?_) λh55=>lxY ?_)<;>(try subst_vars)<;>(have hs:=Tq a.host l;have ha:szAddr a=a.host.size+a.path.size:=rfl;have hl:=Ad Af l;have hx:=BP (λs:V_=>decide (s.host=a.host)) l 0 (Int.le_refl _);have hy:=BP (λf:aD=>decide (f.path=a.path)) ((l++[({ host:=a.host,files:=[]}:V_)]).getD ((l.length:Int)).toNat default).files 0 (Int.le_refl _);have hz:=BP (λf:aD=>decide (f.path=a.path)) (l.getD (AQ (λs:V_=>decide (s.host=a.host)) l 0).toNat default).files 0 (Int.le_refl _);have hf:=HA (l++[({ host:=a.host,files:=[]}:V_)]) ((l.length:Int)).toNat;have hv:=HA l (AQ (λs:V_=>decide (s.host=a.host)) l 0).toNat;try simp only[AA] at *)<;>(try simp only[std,Nat.reduceAdd] at *)<;>(try refine⟨?_,?_,λe=>?_,λhF=>?_⟩)<;>(first|omega|exact Y_ _|(simp only[ak,List.length_modify,aq,aU];omega)|exact aR (Qe _ _ _ _) o_|exact aR (Nj _ _ _ _) o_|exact aR (SQ _ _) (aR (Qe _ _ _ _) o_)|exact aR (SQ _ _) (aR (Nj _ _ _ _) o_)|skip)<;>(first|exact hF|exact PL (Abm hF _) ‹_›|exact PL hF ‹_›|skip)<;>(try rcases Nat.eq_zero_or_pos l.length with q|q;(obtain rfl:=List.length_eq_zero_iff.1 q);skip)<;>(first|exact q|omega|(exfalso;simp[AQ] at h8;done)|(exfalso;simp at h24;done)|skip)<;>obtain⟨e1,e2,e3⟩:=e<;>(first|(exfalso;simp[isServer,srvOk,e1,e2,e3] at *;done)|skip))
abbrev GE:Xct:=⟨[.u],[.sl .server],λ(x:W_)=>True,λ(x:W_) (y:bB)=>szL Af y.1<=100000/\0<y.1.length/\okF y.1⟩
abbrev B7 (c:Unit):LInv:=⟨[⟨.s,3,true,.sl .server⟩,⟨.s,12,true,.el .int⟩,⟨.s,10,true,.sl .str⟩],λ_ (x:bT)=>0<=x.2.1/\x.2.1<=3/\szL Af x.1<=30000*x.2.1.toNat/\x.2.2.1.length=3/\x.2.2.1.all (λs=>decide (s.size<=30))=true/\okF x.1,λ(x:bT)=>3-x.2.1.toNat⟩
abbrev B6 (c:Unit):LInv:=⟨[⟨.s,3,true,.sl .server⟩,⟨.s,18,true,.el .int⟩,⟨.s,16,true,.sl .str⟩,⟨.s,10,true,.sl .str⟩],λ(z x:bU)=>0<=x.2.1/\x.2.1<=3/\szL Af x.1<=szL Af z.1+4000*x.2.1.toNat/\x.2.2.1.length=3/\x.2.2.1.all (λs=>decide (s.size<=30))=true/\x.2.2.2.1=z.2.2.2.1/\okF x.1,λ(x:bU)=>3-x.2.1.toNat⟩
def Anu:=Am6.X GE<|Xct.p (KP [0,2,3,5,7,8,10,11,12,16,17,18] [13,19,27,30,45,57]) (λ⟨c,_⟩=>λ|3=>some (B7 c)|6=>some (B6 c)|_=>none) Am6.2 func41 (by
 rintro⟨(c:PUnit),_⟩ hp;refine ho (let bK:=(⟨#[97,112,112]⟩:ByteArray);let ax:=(⟨#[104,111,109,101]⟩:ByteArray);let J_:=Value.int IntKind.i64 (3:Int);lpx (B7 c) ([],((0:Int),([ax,(⟨#[99,100,110]⟩:ByteArray),(⟨#[101,118,105,108]⟩:ByteArray)],()))) λ(y1:bT) bk1=>let aK:=Value.int IntKind.i64 y1.2.1;let Z_:=(⟨y1.2.2.1.getD y1.2.1.toNat default,(⟨#[108,111,103,111]⟩:ByteArray)⟩:FS);let R_:=Value.string (y1.2.2.1.getD y1.2.1.toNat default);.br (decide (y1.2.1<3)) (.ix y1.2.1 y1.2.2.1.length<|lpx (B6 c) (y1.1,((0:Int),([bK,(⟨#[108,105,98]⟩:ByteArray),(⟨#[117,116,105,108]⟩:ByteArray)],(y1.2.2.1,())))) λ(y5:bU) bk5=>let ar:=(⟨y1.2.2.1.getD y1.2.1.toNat default,y5.2.2.1.getD y5.2.1.toNat default⟩:FS);let M_:Out:=.re aK<|.re J_<|.re R_<|.re J_<|.bk (bk5 (y5.1,(w1 y5.2.1,(y5.2.2.1,(y5.2.2.2.1,())))));let H_:Out:=.dr Fv ((),(6:Int),()) λ(y20:U_)=>.br (!y20.1) (.dr BQ ((),(2:Int),()) λ(y23:al)=>.dr BI (y5.1,ar,y23.1,()) λ(y25:T_)=>.re aK<|.re J_<|.re R_<|.re J_<|.bk (bk5 (y25.1,(w1 y5.2.1,(y5.2.2.1,(y5.2.2.2.1,())))))) M_;.br (decide (y5.2.1<3)) (.ix y5.2.1 y5.2.2.1.length<|.br (!(y5.2.2.1.getD y5.2.1.toNat default).toList==bK.toList) (.dr Fv ((),(2:Int),()) λ(y10:U_)=>.br (y10.1) (.dr Fv ((),(6:Int),()) λ(y12:U_)=>.br (!y12.1) (.dr BQ ((),(5:Int),()) λ(y15:al)=>.dr BI (y5.1,ar,y15.1,()) λ(y17:T_)=>.re aK<|.re J_<|.re R_<|.re J_<|.bk (bk5 (y17.1,(w1 y5.2.1,(y5.2.2.1,(y5.2.2.2.1,())))))) M_) H_) H_) (.dr Fv ((),(4:Int),()) λ(y36:U_)=>.br (!y36.1) (.dr BQ ((),(3:Int),()) λ(y39:al)=>.dr BI (y5.1,(⟨y1.2.2.1.getD y1.2.1.toNat default,(⟨#[115,116,121,108,101]⟩:ByteArray)⟩:FS),y39.1,()) λ(y41:T_)=>.dr Fv ((),(4:Int),()) λ(y42:U_)=>.br (!y42.1) (.dr BQ ((),(4:Int),()) λ(y45:al)=>.dr BI (y41.1,Z_,y45.1,()) λ(y47:T_)=>.re J_<|.bk (bk1 (y47.1,(w1 y1.2.1,(y5.2.2.2.1,()))))) (.re J_<|.bk (bk1 (y41.1,(w1 y1.2.1,(y5.2.2.2.1,())))))) (.dr Fv ((),(4:Int),()) λ(y50:U_)=>.br (!y50.1) (.dr BQ ((),(4:Int),()) λ(y53:al)=>.dr BI (y5.1,Z_,y53.1,()) λ(y55:T_)=>.re J_<|.bk (bk1 (y55.1,(w1 y1.2.1,(y5.2.2.2.1,()))))) (.re J_<|.bk (bk1 (y5.1,(w1 y1.2.1,(y5.2.2.2.1,())))))))) (.dr BQ ((),(1:Int),()) λ(y59:al)=>.dr BI (y1.1,(⟨ax,(⟨#[105,110,100,101,120]⟩:ByteArray)⟩:FS),y59.1,()) λ(y61:T_)=>.dr BQ ((),(1:Int),()) λ(y63:al)=>.dr BI (y61.1,(⟨ax,(⟨#[110,101,120,116]⟩:ByteArray)⟩:FS),y63.1,()) λ(y65:T_)=>.lx GE (y65.1,()))) ?_;refine Aq ?_ λ(y1:bT) i1=>Aa (λh2=>CW ?_ λo3 o4=>Aq ?_ λ(y5:bU) i5=>Aa (λh6=>CW ?_ λo7 o8=>Aa (λh9=>Bn trivial λ(y10:U_) i10=>Aa (λh11=>Bn trivial λ(y12:U_) i12=>Aa (λh13=>BA ?_ λo14 (y15:al) i15=>BA ?_ λo16 (y17:T_) i17=>An<|An<|An<|An<|AR ?_) λh13=>An<|An<|An<|An<|AR ?_) λh11=>Bn trivial λ(y20:U_) i20=>Aa (λh21=>BA ?_ λo22 (y23:al) i23=>BA ?_ λo24 (y25:T_) i25=>An<|An<|An<|An<|AR ?_) λh21=>An<|An<|An<|An<|AR ?_) λh9=>Bn trivial λ(y28:U_) i28=>Aa (λh29=>BA ?_ λo30 (y31:al) i31=>BA ?_ λo32 (y33:T_) i33=>An<|An<|An<|An<|AR ?_) λh29=>An<|An<|An<|An<|AR ?_) λh6=>Bn trivial λ(y36:U_) i36=>Aa (λh37=>BA ?_ λo38 (y39:al) i39=>BA ?_ λo40 (y41:T_) i41=>Bn trivial λ(y42:U_) i42=>Aa (λh43=>BA ?_ λo44 (y45:al) i45=>BA ?_ λo46 (y47:T_) i47=>An<|AR ?_) λh43=>An<|AR ?_) λh37=>Bn trivial λ(y50:U_) i50=>Aa (λh51=>BA ?_ λo52 (y53:al) i53=>BA ?_ λo54 (y55:T_) i55=>An<|AR ?_) λh51=>An<|AR ?_) (λh2=>BA ?_ λo58 (y59:al) i59=>BA ?_ λo60 (y61:T_) i61=>BA ?_ λo62 (y63:al) i63=>BA ?_ λo64 (y65:T_) i65=>lxY ?_)<;>(try simp only[AA] at *)<;>(try simp only[std,Nat.reduceAdd] at *)<;>(have hr:∀ (l:List ByteArray) (i:Nat),(l.all λs=>decide (s.size<=30))=true->i<l.length->(l.getD i default).size<=30:=λl i h hi=>by have:=aH.1 h _ (Ae hi);simpa using this)<;>(have s1:(⟨#[115,116,121,108,101]⟩:ByteArray).size=5:=rfl;have s2:(⟨#[108,111,103,111]⟩:ByteArray).size=4:=rfl;have s3:(⟨#[104,111,109,101]⟩:ByteArray).size=4:=rfl;have s4:(⟨#[105,110,100,101,120]⟩:ByteArray).size=5:=rfl;have s5:(⟨#[110,101,120,116]⟩:ByteArray).size=4:=rfl)<;>(try obtain⟨a1,a2,a3,a4,a5,a6⟩:=i1)<;>(try obtain⟨b1,b2,b3,b4,b5,b6,b7⟩:=i5)<;>have f0:okF []:=λv hv=>nomatch hv<;>(try have f17:=i17.2.2.2 b7)<;>(try have f25:=i25.2.2.2 b7)<;>(try have f33:=i33.2.2.2 b7)<;>(try have f41:=i41.2.2.2 b7)<;>(try have f55:=i55.2.2.2 b7)<;>(try have f47:=i47.2.2.2 f41)<;>(try have f65:=i65.2.2.2 (i61.2.2.2 a6))<;>(first|omega|exact⟨o_,o_,by simp[szL],by decide,f0⟩|exact⟨o_,o_,o_,by decide,a6⟩|exact⟨o_,o_⟩|skip)<;>(try have c1:=hr y1.2.2.1 y1.2.1.toNat a5 o_)<;>(try have c2:=hr y5.2.2.1 y5.2.1.toNat b5 o_)<;>(try rw[A_ o_ o_])<;>(try rw[b6])<;>(try simp only[szAddr,Ab] at *)<;>(first|omega|exact⟨o_,o_,o_⟩|exact⟨⟨o_,o_,o_,b4,b5,rfl,‹_›⟩,o_⟩|exact⟨⟨o_,o_,o_,b4,b5,trivial,‹_›⟩,o_⟩|exact⟨⟨o_,o_,o_,b4,b5,b6,‹_›⟩,o_⟩|exact⟨⟨o_,o_,o_,a4,a5,‹_›⟩,o_⟩|exact⟨o_,fE (i61.2.2.1 ⟨by decide,by decide,i59.1⟩) i65.2.1,f65⟩|skip))
def okN (n:N_):Prop:=szL Af n.servers<=120000/\szCache n.cache<=110000/\szL Gv n.log<=300*n.log.length/\n.log.length<=400
def Agq {n:N_} (h:okN n):szNet n<=350000:=by
 obtain⟨h1,h2,h3,h4⟩:=h;simp only[szNet];omega
def T7 {n:N_} (h:okN n) {t:ByteArray} {a:FS} (g:Bool) (ht:t.size<=150) (ha:szAddr a<=60):okN (fetchNow n t a g).1:=by
 obtain⟨h1,h2,h3,h4⟩:=h;have hk:∀ (m:N_) (x:L_),okN m->okN (keepAnswer m t a x):=λm x hm=>by
  unfold keepAnswer;split
  ·exact⟨hm.1,JL _ _ _ _ _ hm.2.1 o_,hm.2.2.1,hm.2.2.2⟩
  ·exact hm
 have hl:okN (logSent n t a g):=by
  unfold logSent;split
  ·refine⟨h1,h2,?_,?_⟩
   ·show szL Gv (n.log++[(⟨t,a,g⟩:bE)])<=300*(n.log++[(⟨t,a,g⟩:bE)]).length;rw[EU,ak,aq,aU];simp only[Gv];omega
   ·show(n.log++[(⟨t,a,g⟩:bE)]).length<=400;rw[ak,aq,aU];omega
  ·exact⟨h1,h2,h3,h4⟩
 unfold fetchNow;split
 ·exact⟨h1,h2,h3,h4⟩
 ·split
  ·exact⟨h1,h2,h3,h4⟩
  ·dsimp only;split
   ·exact hl
   ·exact hk _ _ hl
abbrev Sx:Xct:=⟨[.u],[.sl .server],λ(x:W_)=>True,λ(x:W_) (y:bB)=>szL Af y.1<=120000⟩
def Anq:=Anu.X Sx<|Xct.o (KP [0,2,3,7] [8,17]) Anu.2 func127 (by
 rintro⟨(c:PUnit),_⟩ hp;refine ho (.dr GE ((),()) λ(y1:bB)=>.dr Bc ((),(12:Int),()) λ(y2:E_)=>.br (y2.1==0) (.dr LJ ((),[(⟨#[104,111,109,101]⟩:ByteArray),(⟨#[]⟩:ByteArray),(⟨#[109,111,114,101]⟩:ByteArray)],()) λ(y5:D_)=>.ob (IJ (y1.1.length+[(⟨y5.1,[]⟩:V_)].length) 40)<|.lx Sx (y1.1++[(⟨y5.1,[]⟩:V_)],())) (.br (y2.1==1) (.ob ((0:Int)<=(0:Int)/\(0:Int)<(y1.1.length:Int))<|.ob (0<y1.1.length)<|.dr LJ ((),[(⟨#[97,112,112]⟩:ByteArray),(⟨#[]⟩:ByteArray),(⟨#[122,122,122]⟩:ByteArray)],()) λ(y11:D_)=>.dr JC ((),()) λ(y12:al)=>.ap ((y1.1.getD 0 default).files.length+[(⟨y11.1,y12.1⟩:aD)].length) 80<|.ob ((0:Int)<=(0:Int)/\(0:Int)<(y1.1.length:Int))<|.re (0)<|.lt (List V_) (y1.1.modify 0 λz=>(⟨z.host,(y1.1.getD 0 default).files++[(⟨y11.1,y12.1⟩:aD)]⟩:V_)) λz2=>.lx Sx (z2,())) (.lx Sx (y1.1,())))) ?_;refine Bn trivial λ(y1:bB) i1=>Bn trivial λ(y2:E_) i2=>Aa (λh3=>BA ?_ λo4 (y5:D_) i5=>Ac ?_ λ_=>lxY ?_) (λh3=>Aa (λh7=>Ac ?_ λ_=>Ac ?_ λ_=>BA ?_ λo10 (y11:D_) i11=>Bn trivial λ(y12:al) i12=>EG ?_ λ_=>Ac ?_ λ_=>An<|YA λz2 ez2=>lxY ?_) λh7=>lxY ?_)<;>(try subst_vars)<;>(try simp only[AA] at *)<;>(try simp only[std,Nat.reduceAdd] at *)<;>(first|omega|(refine⟨?_,?_,?_⟩<;>decide)|skip)<;>(have hl:=Ad Af y1.1;have hf:=HA y1.1 0)<;>(first|omega|(rw[Tq];omega)|(refine aR (Nj _ _ _ _) ?_;simp only[Ab];omega)|skip))
abbrev QT:Xct:=⟨[.u],[.el .cache],λ(x:W_)=>True,λ(x:W_) (y:cw)=>szCache y.1<=80000⟩
abbrev CU (c:Unit):LInv:=⟨[⟨.b,3,true,.el .cache⟩,⟨.s,4,true,.el .int⟩,⟨.b,2,true,.el .cache⟩],λ(z x:cc)=>(0<=x.2.1/\x.2.1<=5/\szCache x.1<=80000)/\x.2.2.1=z.2.2.1,λ(x:cc)=>x.2.1.toNat⟩
def An6:=Anq.X QT<|Xct.p (KP [0,2,3,4,5,6] [11]) (λ⟨c,_⟩=>lv [(3,CU c)]) Anq.2 func168 (by
 rintro⟨(c:PUnit),_⟩ hp;refine ho (.dr Bc ((),(6:Int),()) λ(y1:E_)=>lpx (CU c) (default,(y1.1,(default,()))) λ(y2:cc) bk2=>.br (decide (y2.2.1>0)) (.dr SL ((),()) λ(y4:D_)=>.dr SC ((),()) λ(y5:au)=>.dr Bc ((),(5:Int),()) λ(y6:E_)=>.dr BQ ((),wr ((1:Int)+y6.1),()) λ(y8:al)=>.dr Bc ((),(9:Int),()) λ(y9:E_)=>.cl Di (y2.1,y4.1,y5.1,y8.1,y9.1,()) λz2=>.bk (bk2 (z2.1,(wr (y2.2.1-(1:Int)),(y2.2.2.1,()))))) (.lx QT (y2.1,()))) ?_;refine Bn trivial λ(y1:E_) i1=>Aq ?_ λ(y2:cc) i2=>Aa (λh3=>Bn trivial λ(y4:D_) i4=>Bn trivial λ(y5:au) i5=>Bn trivial λ(y6:E_) i6=>BA ?_ λo7 (y8:al) i8=>Bn trivial λ(y9:E_) i9=>Cu ?_ λo10 z2 ez2=>AR ?_) (λh3=>lxY ?_)<;>(try subst_vars)<;>(try simp only[AA] at *)<;>(try simp only[std,Nat.reduceAdd] at *)<;>(try simp(disch:=omega) only[A_] at *)<;>(first|omega|exact⟨o_,o_,by decide⟩|exact⟨⟨o_,o_,JL _ _ _ _ _ o_ o_⟩,o_⟩|exact⟨⟨⟨o_,o_,JL _ _ _ _ _ o_ o_⟩,i2.2⟩,o_⟩|(simp only[szAddr,Ab];exact⟨o_,o_,o_,o_⟩)|skip))
abbrev Rt:Xct:=⟨[.u],[.el .cache],λ(x:W_)=>True,λ(x:W_) (y:cw)=>szCache y.1<=110000⟩
abbrev D8 (c:Unit):LInv:=⟨[⟨.b,3,true,.el .cache⟩,⟨.s,4,true,.el .int⟩,⟨.b,2,true,.el .cache⟩],λ(z x:cc)=>(0<=x.2.1/\x.2.1<=101/\szCache x.1<=80000+20*x.2.1.toNat)/\x.2.2.1=z.2.2.1,λ(x:cc)=>101-x.2.1.toNat⟩
def Anc:=An6.X Rt<|Xct.p (KP [0,2,3,4,8] [9,24,27]) (λ⟨c,_⟩=>lv [(7,D8 c)]) An6.2 func128 (by
 rintro⟨(c:PUnit),_⟩ hp;refine ho (let aK:=(20:Int)≠(0:Int);let ax:=(⟨#[99,100,110]⟩:ByteArray);let Z_:=(⟨#[]⟩:ByteArray);let J_:=(⟨#[104,111,109,101]⟩:ByteArray);let H_:=(⟨(200:Int),(2:Int),Z_,(0:Int),false,Z_⟩:L_);.dr QT ((),()) λ(y1:cw)=>.dr Bc ((),(12:Int),()) λ(y2:E_)=>.br (y2.1==0) (.dr LJ ((),[J_,Z_],()) λ(y5:D_)=>.dr AaI ((),()) λ(y6:au)=>.dr JC ((),()) λ(y7:al)=>let R_:=(⟨y5.1,y6.1,y7.1,(0:Int)⟩:ce);.ap (y1.1.bh.length+[R_].length) 120<|.lx Rt (⟨y1.1.bh++[R_]⟩,())) (.br (y2.1==1) (lpx (D8 c) (y1.1,((0:Int),(default,()))) λ(y10:cc) bk10=>let ar:=wr ((97:Int)+y10.2.1.tmod (20:Int));let M_:=wr ((97:Int)+wr (y10.2.1.tdiv (20:Int)));.br (decide (y10.2.1<101)) (.ob aK<|.ob aK<|.ob (True)<|.ap (y10.1.bh.length+[(⟨J_,(⟨ax,List.foldl (λr n=>r.push (UInt8.ofNat n.toNat)) ByteArray.empty [IntKind.u8.wrap ar,IntKind.u8.wrap M_]⟩:FS),H_,(0:Int)⟩:ce)].length) 120<|.re (Value.int IntKind.i64 y2.1)<|.bk (bk10 ((⟨y10.1.bh++[(⟨J_,(⟨ax,List.foldl (λr n=>r.push (UInt8.ofNat n.toNat)) ByteArray.empty [IntKind.u8.wrap ar,IntKind.u8.wrap M_]⟩:FS),H_,(0:Int)⟩:ce)]⟩:bD),(w1 y10.2.1,(y10.2.2.1,()))))) (.lx Rt (y10.1,()))) (.lx Rt (y1.1,())))) ?_;refine Bn trivial λ(y1:cw) i1=>Bn trivial λ(y2:E_) i2=>Aa (λh3=>BA ?_ λo4 (y5:D_) i5=>Bn trivial λ(y6:au) i6=>Bn trivial λ(y7:al) i7=>EG ?_ λ_=>lxY ?_) (λh3=>Aa (λh9=>Aq ?_ λ(y10:cc) i10=>Aa (λh11=>Ac ?_ λ_=>Ac ?_ λ_=>Ac trivial λ_=>EG ?_ λ_=>An<|AR ?_) λh11=>lxY ?_) λh9=>lxY ?_)<;>(try simp only[AA] at *)<;>(try simp only[std,Nat.reduceAdd] at *)<;>(first|omega|(refine⟨?_,?_,?_⟩<;>decide)|skip)<;>have hl:∀ x:bD,x.bh.length<=szCache x:=λx=>Ad Bh x.bh<;>(have h1:=hl y1.1;try have h2:=hl y10.1)<;>have hc:∀ (x:bD) (e:ce),szCache { bh:=x.bh++[e]}=szCache x+Bh e+1:=λx e=>EU _ _ _<;>(try rw[hc])<;>(try simp only[Bh,szAddr,Ab] at *)<;>have h5:∀ a b:Int,(List.foldl (λr n=>r.push (UInt8.ofNat n.toNat)) ByteArray.empty [a,b]).size=2:=λ_ _=>rfl<;>(try rw[A_ (n:=y10.2.1+1) o_ o_])<;>(try rw[h5])<;>(try simp only[show ByteArray.size ⟨#[104,111,109,101]⟩=4 from rfl,show ByteArray.size ⟨#[99,100,110]⟩=3 from rfl,show ByteArray.size ⟨#[]⟩=0 from rfl])<;>(first|omega|exact⟨⟨⟨o_,o_,o_⟩,i10.2⟩,o_⟩|skip))
abbrev AdN:Xct:=⟨[.u],[.el .net],λ(x:W_)=>True,λ(x:W_) (y:bC)=>okN y.1⟩
def AlK {l:List V_} (h:szL Af l<=120000) (now:Int):okN ⟨l,default,[],now⟩:=⟨h,(by decide:szCache default<=110000),(by decide:szL Gv []<=300*0),(by decide:0<=400)⟩
def AiY {n:N_} (h:okN n):szNet n<=9000000000/\szCache n.cache<=90000000/\szL Af n.servers<=10000000:=by
 have:=Agq h;obtain⟨h1,h2,h3,h4⟩:=h;exact⟨o_,o_,o_⟩
abbrev EK (c:Unit):LInv:=⟨[⟨.b,3,true,.el .net⟩,⟨.s,4,true,.el .int⟩,⟨.b,2,true,.el .net⟩],λ(z x:aX)=>(0<=x.2.1/\x.2.1<=3/\okN x.1)/\x.2.2.1=z.2.2.1,λ(x:aX)=>x.2.1.toNat⟩
def AmH:=Anc.X AdN<|Xct.p (KP [0,2,3,4,5] [14]) (λ⟨c,_⟩=>lv [(3,EK c)]) Anc.2 func126 (by
 rintro⟨(c:PUnit),_⟩ hp;refine ho (.dr GE ((),()) λ(y1:bB)=>.dr Bc ((),(20:Int),()) λ(y2:E_)=>.dr Bc ((),(4:Int),()) λ(y3:E_)=>lpx (EK c) ((⟨y1.1,default,[],y2.1⟩:N_),(y3.1,(default,()))) λ(y4:aX) bk4=>.br (decide (y4.2.1>0)) (.dr LJ ((),[(⟨#[104,111,109,101]⟩:ByteArray),(⟨#[99,100,110]⟩:ByteArray)],()) λ(y7:D_)=>.dr SC ((),()) λ(y8:au)=>.dr Fv ((),(3:Int),()) λ(y9:U_)=>.cl Bw (y4.1,y7.1,y8.1,y9.1,()) λz2=>.bk (bk4 (z2.1,(wr (y4.2.1-(1:Int)),(y4.2.2.1,()))))) (.lx AdN (y4.1,()))) ?_;refine Bn trivial λ(y1:bB) i1=>Bn trivial λ(y2:E_) i2=>Bn trivial λ(y3:E_) i3=>Aq ?_ λ(y4:aX) i4=>Aa (λh5=>BA ?_ λo6 (y7:D_) i7=>Bn trivial λ(y8:au) i8=>Bn trivial λ(y9:U_) i9=>Cu ?_ λo10 z2 ez2=>AR ?_) (λh5=>lxY ?_)<;>(try subst_vars)<;>(try simp only[AA] at *)<;>(try simp only[std,Nat.reduceAdd] at *)<;>(try simp(disch:=omega) only[A_] at *)<;>(first|omega|exact⟨o_,o_,AlK o_ _⟩|(refine⟨?_,?_,?_⟩<;>decide)|skip)<;>(have b3:=i4.1.2.2;try have b4:=AiY b3)<;>(try simp only[szAddr])<;>(first|exact b3|exact⟨b4.1,b4.2.1,b4.2.2,o_,o_⟩|exact⟨⟨⟨o_,o_,T7 b3 _ i7 (by simp only[szAddr];omega)⟩,i4.2⟩,o_⟩|skip))
def Ahx {n:N_} (h:okN n) (hl:n.log.length<400) {a:FS} (ha:szAddr a<=60):okN { n with log:=n.log++[⟨⟨#[104,111,109,101]⟩,a,false⟩]}:=by
 obtain⟨h1,h2,h3,h4⟩:=h;refine⟨h1,h2,?_,?_⟩
 ·dsimp only;rw[EU,ak,aq,aU];simp only[Gv,show ByteArray.size ⟨#[104,111,109,101]⟩=4 from rfl];omega
 ·dsimp only;rw[ak,aq,aU];omega
abbrev Ez (c:Unit):LInv:=⟨[⟨.b,3,true,.el .net⟩,⟨.b,2,true,.el .net⟩],λ(z x:dX)=>(okN x.1)/\x.2.1=z.2.1,λ(x:dX)=>400-x.1.log.length⟩
def AmU:=AmH.X AdN<|Xct.p (KP [0,2,3,7] [8,13,18,24,29]) (λ⟨c,_⟩=>lv [(10,Ez c)]) AmH.2 func79 (by
 rintro⟨(c:PUnit),_⟩ hp;refine ho (.dr AdN ((),()) λ(y1:bC)=>.dr Bc ((),(14:Int),()) λ(y2:E_)=>.br (y2.1==0) (.dr Sx ((),()) λ(y4:bB)=>.lx AdN ({y1.1 with servers:=y4.1},())) (.br (y2.1==1) (.dr Rt ((),()) λ(y6:cw)=>.lx AdN ({y1.1 with cache:=y6.1},())) (.br (y2.1==2) (.dr Mm ((),[(-1:Int),(999999998000:Int),(999999998001:Int)],()) λ(y9:E_)=>.lx AdN ({y1.1 with now:=y9.1},())) (.br (y2.1==3) (lpx (Ez c) (y1.1,(default,())) λ(y11:dX) bk11=>.br (decide ((y11.1.log.length:Int)<400)) (.dr SC ((),()) λ(y13:au)=>let H_:=(⟨(⟨#[104,111,109,101]⟩:ByteArray),y13.1,false⟩:bE);.ap (y11.1.log.length+[H_].length) 56<|.re (Value.int IntKind.i64 y2.1)<|.bk (bk11 (({y11.1 with log:=y11.1.log++[H_]}:N_),(y11.2.1,())))) (.lx AdN (y11.1,()))) (.lx AdN (y1.1,())))))) ?_;refine Bn trivial λ(y1:bC) i1=>Bn trivial λ(y2:E_) i2=>Aa (λh3=>Bn trivial λ(y4:bB) i4=>lxY ?_) (λh3=>Aa (λh5=>Bn trivial λ(y6:cw) i6=>lxY ?_) λh5=>Aa (λh7=>BA ?_ λo8 (y9:E_) i9=>lxY ?_) λh7=>Aa (λh10=>Aq ?_ λ(y11:dX) i11=>Aa (λh12=>Bn trivial λ(y13:au) i13=>EG ?_ λ_=>An<|AR ?_) λh12=>lxY ?_) λh10=>lxY ?_)<;>(try simp only[AA] at *)<;>(try simp only[std,Nat.reduceAdd] at *)<;>(first|exact⟨i1.1.trans o_,i1.2⟩|exact i1|exact⟨i4,i1.2⟩|exact⟨i1.1,i6,i1.2.2⟩|exact⟨by decide,by decide⟩|exact⟨i1.1,i1.2.1,i1.2.2.1,i1.2.2.2⟩|skip)<;>have hlen:=i11.1.2.2.2<;>(first|omega|exact i11.1|exact⟨⟨Ahx i11.1 o_ (by simp only[szAddr];omega),i11.2⟩,by rw[ak,aq,aU];omega⟩|skip))
def smN (n:N_):Prop:=okF n.servers/\∀ e,e∈n.cache.bh->e.bd.body.size<=400
def W7 {l:List V_} (h:okF l) (a:FS):(answerTo l a).body.size<=400:=by
 unfold answerTo;split
 ·exact Nat.zero_le _
 ·split
  ·exact Nat.zero_le _
  ·rename_i h1 h2;have h3:=BP (λs:V_=>decide (s.host=a.host)) l 0 o_;have h4:=BP (λf:aD=>decide (f.path=a.path)) (l.getD (AQ (λs:V_=>decide (s.host=a.host)) l 0).toNat default).files 0 o_;exact h _ (Ae o_) _ (Ae o_)
def AfP {n:N_} (h:smN n) (t:ByteArray) (a:FS):((lookUp n.cache t a n.now).getD notFound).body.size<=400:=by
 unfold lookUp;cases q:n.cache.bh.find? (freshEntry t a n.now) with
 | none=>exact Nat.zero_le _
 | some e=>exact h.2 e (List.mem_of_find?_eq_some q)
def keep_sm {n:N_} (h:smN n) (t:ByteArray) (a:FS) (x:L_):smN (keepAnswer n t a x):=by
 unfold keepAnswer;split
 ·refine⟨h.1,λe he=>?_⟩;have he:e∈(storeEntry n.cache t a x n.now).bh:=he;unfold storeEntry at he;split at he
  ·rename_i q;have q:=q.2.2.2;unfold isCache at q;rw[S_] at q;exact VB (Iv q.1 e he)
  ·exact h.2 e he
 ·exact h
def Agz {n:N_} (h:smN n) (t:ByteArray) (a:FS) (g:Bool):smN (logSent n t a g):=by
 unfold logSent;split<;>exact h
def Wh {n:N_} (h:smN n) (t:ByteArray) (a:FS) (g:Bool):smN (fetchNow n t a g).1/\(fetchNow n t a g).2.body.size<=400:=by
 unfold fetchNow;split
 ·exact⟨h,Nat.zero_le _⟩
 ·split
  ·exact⟨h,AfP h t a⟩
  ·refine⟨?_,W7 h.1 a⟩;dsimp only;split
   ·exact Agz h t a g
   ·exact keep_sm (Agz h t a g) _ _ _
abbrev AbN:Xct:=⟨[.u],[.el .net],λ(x:W_)=>True,λ(x:W_) (y:bC)=>okN y.1/\smN y.1⟩
abbrev D4 (c:Unit):LInv:=⟨[⟨.b,3,true,.el .net⟩,⟨.s,15,true,.el .int⟩,⟨.s,13,true,.sl .str⟩,⟨.b,2,true,.el .net⟩],λ(z x:bV)=>(0<=x.2.1/\x.2.1<=2/\szL Af x.1.servers<=100000+5000*x.2.1.toNat/\x.1.cache=default/\okF x.1.servers/\x.1.log.length=0/\x.2.2.1.length=2/\x.2.2.1.all (λs=>decide (s.size<=30))=true)/\x.2.2.2.1=z.2.2.2.1,λ(x:bV)=>2-x.2.1.toNat⟩
abbrev D7 (c:Unit):LInv:=⟨[⟨.b,3,true,.el .net⟩,⟨.s,7,true,.el .int⟩,⟨.b,2,true,.el .net⟩],λ(z x:aX)=>(0<=x.2.1/\x.2.1<=2/\okN x.1/\smN x.1)/\x.2.2.1=z.2.2.1,λ(x:aX)=>x.2.1.toNat⟩
def AmD:=AmU.X AbN<|Xct.p (KP [0,2,3,5,6,7,13,14,15] [16,42]) (λ⟨c,_⟩=>λ|3=>some (D4 c)|9=>some (D7 c)|_=>none) AmU.2 func20 (by
 rintro⟨(c:PUnit),_⟩ hp;refine ho (.dr GE ((),()) λ(y1:bB)=>.dr Bc ((),(20:Int),()) λ(y2:E_)=>lpx (D4 c) ((⟨y1.1,default,[],y2.1⟩:N_),((0:Int),([(⟨#[105,110,100,101,120]⟩:ByteArray),(⟨#[110,101,120,116]⟩:ByteArray)],(default,())))) λ(y3:bV) bk3=>.br (decide (y3.2.1<2)) (.ix y3.2.1 y3.2.2.1.length<|.dr TS ((),()) λ(y7:D_)=>.dr EW ((),()) λ(y8:aS)=>.cl AG (y8.1,()) λz2=>.dr Mm ((),[(0:Int),(5:Int)],()) λ(y11:E_)=>.dr BI (y3.1.servers,(⟨(⟨#[104,111,109,101]⟩:ByteArray),y3.2.2.1.getD y3.2.1.toNat default⟩:FS),(⟨(200:Int),(1:Int),y7.1,y11.1,false,z2.1⟩:L_),()) λ(y13:T_)=>.re (Value.int IntKind.i64 (2:Int))<|.bk (bk3 ((⟨y13.1,y3.1.cache,y3.1.log,y3.1.now⟩:N_),(w1 y3.2.1,(y3.2.2.1,(y3.2.2.2.1,())))))) (.dr Bc ((),(3:Int),()) λ(y15:E_)=>lpx (D7 c) (y3.1,(y15.1,(y3.2.2.2.1,()))) λ(y16:aX) bk16=>.br (decide (y16.2.1>0)) (.dr SC ((),()) λ(y18:au)=>.cl Bw (y16.1,(⟨#[104,111,109,101]⟩:ByteArray),y18.1,false,()) λz3=>.re (Value.int IntKind.i64 y3.2.1)<|.re (Value.int IntKind.i64 (2:Int))<|.bk (bk16 (z3.1,(wr (y16.2.1-(1:Int)),(y16.2.2.1,()))))) (.lx AbN (y16.1,())))) ?_;refine Bn trivial λ(y1:bB) i1=>Bn trivial λ(y2:E_) i2=>Aq ?_ λ(y3:bV) i3=>Aa (λh4=>CW ?_ λo5 o6=>Bn trivial λ(y7:D_) i7=>Bn trivial λ(y8:aS) i8=>Cu ?_ λo9 z2 ez2=>(BA ?_ λo10 (y11:E_) i11=>BA ?_ λo12 (y13:T_) i13=>An<|AR ?_)) (λh4=>Bn trivial λ(y15:E_) i15=>Aq ?_ λ(y16:aX) i16=>Aa (λh17=>Bn trivial λ(y18:au) i18=>Cu ?_ λo19 z3 ez3=>(An<|An<|AR ?_)) λh17=>lxY ?_)<;>(try subst_vars)<;>(try have q1:=Fl i8)<;>(try have q2:=BV y8.1)<;>(try simp only[AA] at *)<;>(try simp only[std,Nat.reduceAdd] at *)<;>(have e0:szCache (default:bD)=0:=by decide)<;>(have hr:∀ (l:List ByteArray) (i:Nat),(l.all λs=>decide (s.size<=30))=true->i<l.length->(l.getD i default).size<=30:=λl i h hi=>by have:=aH.1 h _ (Ae hi);simpa using this)<;>(try obtain⟨⟨b1,b2,b3,b4,b9,b5,b6,b7⟩,b8⟩:=i3)<;>(try have f13:=i13.2.2.2 b9)<;>(try have c1:=hr y3.2.2.1 y3.2.1.toNat b7 o_)<;>(first|omega|exact⟨o_,o_,o_,rfl,i1.2.2,rfl,rfl,by decide⟩|exact⟨o_,o_⟩|exact⟨o_,o_,o_,i1.2.2,by decide⟩|skip)<;>(try simp only[szAddr,Ab,show ByteArray.size ⟨#[104,111,109,101]⟩=4 from rfl] at *)<;>(try rw[A_ o_ o_])<;>(first|omega|exact⟨o_,o_,o_⟩|exact⟨⟨⟨o_,o_,o_,b4,f13,b5,b6,b7⟩,b8⟩,o_⟩|skip)<;>(first|exact⟨o_,o_,⟨o_,by rw[b4];decide,by rw[List.length_eq_zero_iff.1 b5];decide,o_⟩,b9,by rw[b4];exact λe h=>nomatch h⟩|skip)<;>(have k3:=i16.1.2.2.1;have k5:=i16.1.2.2.2;have k4:=AiY k3)<;>(first|exact⟨k3,k5⟩|exact⟨k4.1,k4.2.1,k4.2.2,o_,o_⟩|exact⟨⟨⟨o_,o_,T7 k3 _ (by decide) (by simp only[szAddr];omega),(Wh k5 _ _ _).1⟩,i16.2⟩,o_⟩|skip))
abbrev QF:Xct:=⟨[.u],[.el .addr],λ(x:W_)=>True,λ(x:W_) (y:au)=>szAddr y.1<=200⟩
def AnR:=AmD.X QF<|Xct.o [0,2] AmD.2 func21 (by
 rintro⟨(c:PUnit),_⟩ hp;refine ho (.dr LJ ((),[(⟨#[105,110,100,101,120]⟩:ByteArray),(⟨#[105,110,100,101,120]⟩:ByteArray),(⟨#[110,101,120,116]⟩:ByteArray)],()) λ(y2:D_)=>.lx QF (⟨(⟨#[104,111,109,101]⟩:ByteArray),y2.1⟩,())) ?_;refine BA ?_ λo1 (y2:D_) i2=>lxY ?_<;>(try simp only[AA] at *)<;>(try simp only[std,Nat.reduceAdd] at *)<;>(first|(refine⟨?_,?_,?_⟩<;>decide)|(simp only[szAddr,show ByteArray.size ⟨#[104,111,109,101]⟩=4 from rfl];omega)|skip))
abbrev QK:Xct:=⟨[.u],[.sl .int],λ(x:W_)=>True,λ(x:W_) (y:am)=>y.1.length<=4⟩
abbrev Dx (c:Unit):LInv:=⟨[⟨.s,3,true,.sl .int⟩,⟨.s,4,true,.el .int⟩],λ_ (x:bN)=>0<=x.2.1/\x.2.1<=4/\x.1.length+x.2.1<=4,λ(x:bN)=>x.2.1.toNat⟩
def AnX:=AnR.X QK<|Xct.p (KP [0,2,3,4] [9]) (λ⟨c,_⟩=>lv [(3,Dx c)]) AnR.2 func22 (by
 rintro⟨(c:PUnit),_⟩ hp;refine ho (.dr Bc ((),(5:Int),()) λ(y1:E_)=>lpx (Dx c) ([],(y1.1,())) λ(y2:bN) bk2=>.br (decide (y2.2.1>0)) (.dr Bc ((),(120:Int),()) λ(y4:E_)=>.ap (y2.1.length+[wr (y4.1-(1:Int))].length) 8<|.bk (bk2 (y2.1++[wr (y4.1-(1:Int))],(wr (y2.2.1-(1:Int)),())))) (.lx QK (y2.1,()))) ?_;refine Bn trivial λ(y1:E_) i1=>Aq ?_ λ(y2:bN) i2=>Aa (λh3=>Bn trivial λ(y4:E_) i4=>EG ?_ λ_=>AR ?_) (λh3=>lxY ?_)<;>(try simp only[AA] at *)<;>(try simp only[std,Nat.reduceAdd,ak,aq,aU] at *)<;>(try simp(disch:=omega) only[A_] at *)<;>(first|omega|exact⟨o_,o_,o_⟩|exact⟨⟨o_,o_,o_⟩,o_⟩|skip))
def UC (l:List ao) (a:FS) (x:L_) (g:Bool):(openConn l a x g).1=l\/(openConn l a x g).1=l++[⟨a,sizeResponse x,g,x⟩]:=by
 unfold openConn;split
 ·exact .inl rfl
 ·exact .inr rfl
abbrev Ip:Xct:=⟨[.u,.v (.el .int)],[.sl .int],λ(x:az)=>0<=x.2.1/\x.2.1<=100,λ(x:az) (y:am)=>y.1.length<=100/\(y.1.length:Int)<=x.2.1⟩
abbrev B8 (c:Unit) (most:Int):LInv:=⟨[⟨.s,5,true,.sl .int⟩,⟨.s,6,true,.el .int⟩],λ_ (x:bN)=>0<=x.2.1/\x.2.1<=most/\x.1.length+x.2.1<=most,λ(x:bN)=>x.2.1.toNat⟩
def An1:=AnX.X Ip<|Xct.p (KP [0,1,4,5,6] [12]) (λ⟨c,most,_⟩=>lv [(3,B8 c most)]) AnX.2 func23 (by
 rintro⟨(c:PUnit),(most:Int),_⟩ hp;refine ho (.dr Bc ((),most,()) λ(y1:E_)=>lpx (B8 c most) ([],(y1.1,())) λ(y2:bN) bk2=>.br (decide (y2.2.1>0)) (.dr Bc ((),(7:Int),()) λ(y4:E_)=>.ap (y2.1.length+[wr (y4.1-(1:Int))].length) 8<|.re (Value.int IntKind.i64 most)<|.bk (bk2 (y2.1++[wr (y4.1-(1:Int))],(wr (y2.2.1-(1:Int)),())))) (.lx Ip (y2.1,()))) ?_;refine Bn trivial λ(y1:E_) i1=>Aq ?_ λ(y2:bN) i2=>Aa (λh3=>Bn trivial λ(y4:E_) i4=>EG ?_ λ_=>An<|AR ?_) (λh3=>lxY ?_)<;>(try simp only[AA] at *)<;>(try simp only[std,Nat.reduceAdd,ak,aq,aU] at *)<;>(try simp(disch:=omega) only[A_] at *)<;>(first|omega|exact⟨o_,o_⟩|exact⟨o_,o_,o_⟩|exact⟨⟨o_,o_,o_⟩,o_⟩|skip))
abbrev RE:Fct:=⟨[.v (.sl .u8),.v (.el .int)],[.el .int],λ(x:bN)=>x.1.length<=1000000000000000000,λ(x:bN)=>(if x.2.1<3+(x.1.length:Int) / 12 then x.2.1 else 3+(x.1.length:Int) / 12,())⟩
def Amc:=An1.a RE<|Fct.o (KP [0,1,4,5] [12]) An1.2 func24 (by
 rintro⟨(b:List Int),(most:Int),_⟩ hp;refine ho (.ob ((12:Int)≠(0:Int))<|.br (decide (wr ((3:Int)+wr ((↑(List.length b):Int).tdiv (12:Int)))>most)) (.lf RE (most,())) (.lf RE (wr ((3:Int)+wr ((↑(List.length b):Int).tdiv (12:Int))),()))) ?_;refine Ac ?_ λ_=>Aa (λh2=>lfY ?_) (λh2=>lfY ?_)<;>(try simp only[AA] at *)<;>(try simp only[std,Nat.reduceAdd] at *)<;>(try simp(disch:=omega) only[A_,C_] at *)<;>(try simp(disch:=omega) only[G_,F_])<;>(first|trivial|omega|grind[A_,C_,B_,K_,I_,maxLen]))
abbrev Sp:Xct:=⟨[.v (.sl .u8)],[.el .net,.el .addr,.sl .int,.sl .int],λ(x:am)=>x.1.length<=1000000000000000000/\(∀ j,j<x.1.length->0<=x.1.getD j default/\x.1.getD j default<=255),λ(x:am) (y:de)=>okN y.1/\smN y.1/\szAddr y.2.1<=200/\y.2.2.1.length<=4/\y.2.2.2.1.length<=42⟩
end Go.Proofs.YtfklkhgmgglloaaGreat.fnOthersLearn
