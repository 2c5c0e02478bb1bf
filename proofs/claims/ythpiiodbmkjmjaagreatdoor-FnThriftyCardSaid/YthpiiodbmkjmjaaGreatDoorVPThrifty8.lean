/- Contracts, part 8. -/
import Derived.Test.YthpiiodbmkjmjaaGreatDoorVPThrifty4
import Derived.Test.YthpiiodbmkjmjaaGreatDoorVPThrifty7
namespace Go.Proofs.YthpiiodbmkjmjaaGreatDoor.fnThrifty
open Go.Proofs.YthpiiodbmkjmjaaGreatDoor
open Go.D Go.Proofs.Tryz
set_option maxRecDepth 100000
set_option maxHeartbeats 2000000
set_option linter.defProp false
set_option linter.unusedVariables false
set_option linter.unusedSimpArgs false
def Alq:=Aj0.a Ea<|Fct.p (KP [1,2,4,5,6,7,8,9] [20,31,48,59,72]) (λ⟨l,b,_⟩=>lv [(5,Cs l b)]) Aj0.2 func10 (by
 rintro⟨(l:N_),(b:Int),_⟩ hp;refine ho (let H_:=Value.int IntKind.i64 b;.cl A9 (l,()) λz2=>let L_:Out:=.lf Ea (z2.1,false,());.br ((l.conns.length:Int)==0) L_ (.cl Au (b,(1:Int),(1000:Int),()) λz3=>.br (!z3.1) L_ (.cl TN (z2.1.conns,b,()) λz4=>lpx (Cs l b) (({z2.1 with conns:=z4.1}:N_),(default,())) λ(y5:dF) bk5=>.cl O3 (y5.1.conns,()) λ(z5:B_)=>let E_:=y5.1.conns.getD z5.1.toNat default;.br (decide (z5.1<0)) (.lf Ea (y5.1,true,())) (.ix z5.1 y5.1.conns.length<|.cl Ef (y5.1.conns,z5.1,()) λz6=>.cl Fu (y5.1.page,()) λz7=>.cl Ba (z7.1,(y5.1.conns.getD z5.1.toNat default,()),()) λz8=>.br (z8.1) (.cl CM (y5.1.page,E_.to,E_.bd,()) λz9=>.br (E_.guess) (.cl AX (y5.1.net,z9.1.addr.host,E_.to,E_.bd,()) λz10=>.re H_<|.bk (bk5 ((⟨z10.1,z9.1,y5.1.parts,z6.1,y5.1.guesses⟩:N_),(y5.2.1,())))) (.re H_<|.bk (bk5 (({y5.1 with page:=z9.1,conns:=z6.1}:N_),(y5.2.1,()))))) (.br (E_.guess) (.cl EF (y5.1.guesses,E_.to,E_.bd,()) λz11=>.re H_<|.bk (bk5 (({y5.1 with conns:=z6.1,guesses:=z11.1}:N_),(y5.2.1,())))) (.re H_<|.bk (bk5 (({y5.1 with conns:=z6.1}:N_),(y5.2.1,()))))))))) ?_;repeat' first|(guard_target =~ Out.holds _ _;first|refine Am (li:=Cs l b) ?_ λ(y5:dF) i5=>?_|refine lfY ?_|refine Aa (λ_=>?_) λ_=>?_|refine Ae ?_ λ_=>?_|refine AR ?_|refine Ai ?_|refine Ei ?_ λ_ _=>?_)|exact trivial
 all_goals obtain⟨q1,q2⟩:=(show okTr l from hp)<;>(have hc:=LM q1 q2;try simp only[Kj] at *)<;>(try simp only[std,Nat.reduceAdd] at *)<;>(first|trivial|omega|exact hc|exact hc.2.2.2.1|(rw[Adh (.inl o_)];exact⟨rfl,rfl⟩)|(rw[Adh (.inr ‹_›)];exact⟨rfl,rfl⟩)|(rw[Cb];exact AeI q1 b)|skip)<;>(obtain⟨a3,e1⟩:=i5)<;>(have hf:=Ve a3.1;have hd:=Da y5.1.conns 0 o_)<;>(first|trivial|omega|exact hf.2.1.1|exact hf.2.2.1|exact hf.1.2|(rw[Ae0 o_ ‹_›];exact⟨SF a3 o_,rfl⟩)|skip)<;>(have hcs:=hf.2.1.2 _ (AH (show(firstDone y5.1.conns 0).toNat<y5.1.conns.length from o_));have hs1:(y5.1.conns.getD (firstDone y5.1.conns 0).toNat default).bd.body.size+(y5.1.conns.getD (firstDone y5.1.conns 0).toNat default).bd.bj.size<=1048576:=hcs.1;have hn:=Hf y5.1.page;have hh:y5.1.page.addr.host.size<=4000000:=by have:=(Cy (Fb hf.1.1)).2.1;simp only[szAddr] at this;omega)<;>(have hz:=hf.2.2.2;have hw:=hf.1.2)<;>(first|exact⟨o_,λ_=>trivial⟩|exact⟨hf.1.1,o_,o_,o_⟩|(rw[I7];exact⟨o_,o_,o_,o_,o_⟩)|skip)<;>(have hx:=YX a3 o_;have hl:=JI (show 0<=firstDone y5.1.conns 0 from o_) (show firstDone y5.1.conns 0<y5.1.conns.length from o_);try rw[I7])<;>refine⟨⟨?_,e1⟩,o_⟩<;>(first|(rw[AiM ‹_› ‹_›] at hx;exact hx)|(rw[Ajf ‹_› ‹_›] at hx;exact hx)|(rw[AiD ‹_› ‹_›] at hx;exact hx)|(rw[Aiv ‹_› ‹_›] at hx;exact hx)))
def AhS {l:N_} {k:Int} (h0:0<=k) (hk:k<l.conns.length):szL GQ (finish1 l k).conns+szL Fl (finish1 l k).guesses<=szL GQ l.conns+szL Fl l.guesses:=by
 have c1:=AcT h0 hk;have hg:=Aff l.guesses (l.conns.getD k.toNat default).to (l.conns.getD k.toNat default).bd;rw[Tw];simp only[GQ] at c1;unfold finish1 finishC;split
 ·split<;>(dsimp only;omega)
 ·split<;>(dsimp only;omega)
def actOf (l:N_) (n:Int):N_×Bool:=if n=0 then arrivePart l else if n=1 then requestNext l else if n=2 then guessNext l else if n=3 then transfer l 20 else transfer l 200
def okAct (l:N_):Prop:=okArr l/\okRN l/\okGN l/\okTr l
abbrev Aav:Fct:=⟨[.v (.el .loader),.v (.el .int)],[.el .loader,.el .bool],λ(x:cg)=>okAct x.1,λ(x:cg)=>((actOf x.1 x.2.1).1,(actOf x.1 x.2.1).2,())⟩
theorem q10 (l:N_) (n:Int) (hp:Aav.pre (l,n,())):Out.holds (Aav.ctr (l,n,())).post (.br (n==0) (.cl CN (l,()) λz2=>.lf Aav (z2.1,z2.2.1,())) (.br (n==1) (.cl Ci (l,()) λz3=>.lf Aav (z3.1,z3.2.1,())) (.br (n==2) (.cl CZ (l,()) λz4=>.lf Aav (z4.1,z4.2.1,())) (.br (n==3) (.cl Ea (l,(20:Int),()) λz5=>.lf Aav (z5.1,z5.2.1,())) (.cl Ea (l,(200:Int),()) λz6=>.lf Aav (z6.1,z6.2.1,())))))):=by
 repeat' (guard_target =~ Out.holds _ _;first|refine lfY ?_|refine Aa (λ_=>?_) λ_=>?_|refine Ae ?_ λ_=>?_)
 all_goals obtain⟨w1,w2,w4,w3⟩:=(show okAct l from hp)<;>(try simp only[std,Nat.reduceAdd] at *)<;>(first|trivial|omega|exact w1|exact w2|exact w3|exact w4|skip)<;>unfold actOf<;>(repeat first|(rw[I_ o_];exact⟨rfl,rfl⟩)|rw[J_ o_])<;>(first|exact⟨rfl,rfl⟩|skip)
def Al7:=Alq.a Aav<|Fct.o (KP [1,2,4,5,6] [7,13,19,25]) Alq.2 func300 (by
 rintro⟨(l:N_),(n:Int),_⟩ hp;exact ho _ (q10 l n hp))
def AkK:=Al7.a Aav<|Fct.o (KP [1,2,4,5,6] [7,13,19,25]) Al7.2 func97 (by
 rintro⟨(l:N_),(n:Int),_⟩ hp;exact ho _ (q10 l n hp))
def stepR (l:N_) (c:Int):Nat->N_×Bool
 | 0=>(l,false)
 | n+1=>if(actOf l ((max 0 c % 5+(4-(n:Int))) % 5)).2=true then(actOf l ((max 0 c % 5+(4-(n:Int))) % 5)) else stepR l c n
def stepLoad (l:N_) (c:Int):N_×Bool:=stepR l c 5
def tm5 {a:Int} (h:0<=a):Int.tmod a 5=a % 5:=Int.tmod_eq_emod_of_nonneg h
def Ahz {l:N_} {c i:Int} (h0:0<=i) (h5:i<5):stepR l c (5-i.toNat)=if(actOf l ((IntKind.i64.wrap (Int.tmod (max 0 c) 5+i)).tmod 5)).2=true then actOf l ((IntKind.i64.wrap (Int.tmod (max 0 c) 5+i)).tmod 5) else stepR l c (5-(i.toNat+1)):=by
 have e:(IntKind.i64.wrap (Int.tmod (max 0 c) 5+i)).tmod 5=(max 0 c % 5+(4-((5-(i.toNat+1):Nat):Int))) % 5:=by rw[tm5 (show 0<=max 0 c from o_),Ah o_,tm5 o_,show(4-((5-(i.toNat+1):Nat):Int))=i from o_]
 rw[e,show 5-i.toNat=(5-(i.toNat+1))+1 from o_];rw[stepR]
def AhD {l:N_} {c i:Int} (h:5<=i):stepR l c (5-i.toNat)=(l,false):=by rw[show 5-i.toNat=0 from o_];rfl
abbrev DZ:Fct:=⟨[.v (.el .loader),.v (.el .int)],[.el .loader,.el .bool],λ(x:cg)=>okAct x.1,λ(x:cg)=>((stepLoad x.1 x.2.1).1,(stepLoad x.1 x.2.1).2,())⟩
abbrev D8 (l:N_) (c:Int):LInv:=⟨[⟨.s,7,true,.el .int⟩,⟨.b,2,false,.el .loader⟩,⟨.b,4,true,.el .loader⟩],λ(z x:ch)=>((0<=x.1/\x.1<=5/\stepR l c (5-x.1.toNat)=stepLoad l c)/\x.2.1=z.2.1)/\x.2.2.1=z.2.2.1,λ(x:ch)=>5-x.1.toNat⟩
def Aj2:=AkK.a DZ<|Fct.p (KP [1,2,4,5,6,7,8,9] [14,26]) (λ⟨l,c,_⟩=>lv [(3,D8 l c)]) AkK.2 func194 (by
 rintro⟨(l:N_),(c:Int),_⟩ hp;refine ho (.cl Aha ((0:Int),c,()) λ(z2:B_)=>.ob ((5:Int)≠(0:Int))<|lpx (D8 l c) ((0:Int),(l,(default,()))) λ(y2:ch) bk2=>.br (decide (y2.1<5)) (.ob ((5:Int)≠(0:Int))<|.cl Aav (y2.2.1,(wr (z2.1.tmod (5:Int)+y2.1)).tmod (5:Int),()) λz3=>.br (z3.2.1) (.lf DZ (z3.1,true,())) (.re (Value.int IntKind.i64 c)<|.re (Value.int IntKind.i64 (z2.1.tmod (5:Int)))<|.bk (bk2 (w1 y2.1,(y2.2.1,(y2.2.2.1,())))))) (.cl A9 (y2.2.1,()) λz4=>.lf DZ (z4.1,false,()))) ?_;refine Ae trivial λ_=>(Ab ?_ λ_=>Am ?_ λ(y2:ch) i2=>Aa (λh3=>Ab ?_ λ_=>Ae ?_ λ_=>Aa (λh6=>lfY ?_) λh6=>Ai<|Ai<|AR ?_) λh3=>Ae ?_ λ_=>lfY ?_)<;>(have hq:=(show okAct l from hp);have hw:=hq.2.2.2;try simp only[std,Nat.reduceAdd] at *)<;>(first|trivial|omega|exact⟨o_,o_,rfl⟩|skip)<;>(obtain⟨⟨⟨a1,a2,a3⟩,e1⟩,e2⟩:=i2;simp only[e1] at *)<;>(first|trivial|omega|exact hq|exact LM hw.1 hw.2|skip)<;>(first|(rw[AhD o_] at a3;rw[<-a3];exact⟨rfl,rfl⟩)|rw[Ahz a1 o_] at a3)<;>(first|(rw[I_ ‹_›] at a3;rw[<-a3];exact⟨rfl,Eq.symm ‹_›⟩)|(rw[J_ λq=>tf q ‹_›] at a3;rw[Ah o_,show(y2.1+1).toNat=y2.1.toNat+1 from o_];exact⟨⟨⟨⟨o_,o_,a3⟩,by trivial⟩,e2⟩,o_⟩)))
abbrev D2 (l:N_) (c:Int):LInv:=⟨[⟨.s,6,true,.el .int⟩,⟨.b,2,false,.el .loader⟩,⟨.b,4,true,.el .loader⟩],λ(z x:ch)=>((0<=x.1/\x.1<=5/\stepR l c (5-x.1.toNat)=stepLoad l c)/\x.2.1=z.2.1)/\x.2.2.1=z.2.2.1,λ(x:ch)=>5-x.1.toNat⟩
def Ald:=Aj2.a DZ<|Fct.p (KP [1,2,4,5,6,7,8] [10,24]) (λ⟨l,c,_⟩=>lv [(2,D2 l c)]) Aj2.2 func20 (by
 rintro⟨(l:N_),(c:Int),_⟩ hp;refine ho (lpx (D2 l c) ((0:Int),(l,(default,()))) λ(y1:ch) bk1=>.br (decide (y1.1<5)) (.ob ((5:Int)≠(0:Int))<|.ob ((5:Int)≠(0:Int))<|.cl Aav (y1.2.1,(wr ((if c>0 then c else(0:Int)).tmod (5:Int)+y1.1)).tmod (5:Int),()) λz2=>.br (z2.2.1) (.lf DZ (z2.1,true,())) (.re (Value.int IntKind.i64 c)<|.bk (bk1 (w1 y1.1,(y1.2.1,(y1.2.2.1,())))))) (.cl A9 (y1.2.1,()) λz3=>.lf DZ (z3.1,false,()))) ?_;refine Am ?_ λ(y1:ch) i1=>Aa (λh2=>Ab ?_ λ_=>Ab ?_ λ_=>Ae ?_ λ_=>Aa (λh6=>lfY ?_) λh6=>Ai<|AR ?_) (λh2=>Ae ?_ λ_=>lfY ?_)<;>(have hq:=(show okAct l from hp);have hw:=hq.2.2.2;try simp only[std,Nat.reduceAdd] at *)<;>(try simp only[show(if c>0 then c else 0)=max 0 c from by split<;>omega] at *)<;>(first|trivial|omega|exact⟨o_,o_,rfl⟩|skip)<;>(obtain⟨⟨⟨a1,a2,a3⟩,e1⟩,e2⟩:=i1;simp only[e1] at *)<;>(first|trivial|omega|exact hq|exact LM hw.1 hw.2|skip)<;>(first|(rw[AhD o_] at a3;rw[<-a3];exact⟨rfl,rfl⟩)|rw[Ahz a1 o_] at a3)<;>(first|(rw[I_ ‹_›] at a3;rw[<-a3];exact⟨rfl,Eq.symm ‹_›⟩)|(rw[J_ λq=>tf q ‹_›] at a3;rw[Ah o_,show(y1.1+1).toNat=y1.1.toNat+1 from o_];exact⟨⟨⟨⟨o_,o_,a3⟩,by trivial⟩,e2⟩,o_⟩)))
def Kp (p:C_):Prop:=okTo p/\-9223372036854775808<=p.block/\p.block<=9223372036854775807
def Wc {p q:C_} (h:Kp p) (hs:q.bf=p.bf) (hm:q.bh=p.bh) (hb:q.block=p.block):Kp q:=by
 unfold Kp okTo at *
 rw[hs,hm,hb];exact h
def Xo (p:C_) (m:Int) (to d:ByteArray) (n:Int):(newSlot p m to d n).to=(parseAddr to p.addr.host).1:=by unfold newSlot;split<;>rfl
def WL {p:C_} (h:Kp p) (m:Int) (to d:ByteArray) (n:Int):Kp (addSlot p m to d n).1:=by
 unfold addSlot;split
 ·refine⟨⟨λs hs=>?_,h.1.2⟩,h.2⟩;rcases aR.1 hs with q|q
  ·exact h.1.1 s q
  ·rw[List.mem_singleton.1 q,Xo];have:=Hj to p.addr.host;omega
 ·exact h
def AhJ {p:C_} (h:Kp p) {a:D_} (ha:szAddr a<=16):Kp (askModule p a):=by
 unfold askModule;split
 ·exact h
 ·refine⟨⟨h.1.1,λm hm=>?_⟩,h.2⟩;rcases aR.1 hm with q|q
  ·exact h.1.2 m (gu q)
  ·rcases cp.1 q with q|q
   ·rw[q];have e:(newMod p a).to=a:=by unfold newMod;first|rfl|(split<;>rfl)
    rw[e];omega
   ·exact h.1.2 m (gw q)
def Agg {p:C_} (h:Kp p) (to:ByteArray):Kp (addEntry p to):=by
 unfold addEntry;split
 ·exact Wc (AhJ h (Hj to p.addr.host)) rfl rfl rfl
 ·exact h
def Zv {p:C_} (h:Kp p) (t:ao) (n:Int):Kp (element p t n):=by
 unfold element;split
 ·exact WL h ..
 ·split
  ·exact WL h ..
  ·exact h
def Ad5 {p:C_} (h:Kp p) (n:Int):Kp (script p n):=by
 unfold script;split
 ·split
  ·exact Wc h rfl rfl rfl
  ·exact h
 ·split
  ·exact WL h ..
  ·split
   ·exact Agg h ..
   ·have hb:=My p 3 ((findAttr (p.ba.bi.getD n.toNat default).bo ⟨#[115,114,99]⟩).getD ⟨#[]⟩) ((findAttr (p.ba.bi.getD n.toNat default).bo ⟨#[100,105,103,101,115,116]⟩).getD ⟨#[]⟩) n;exact⟨(WL h ..).1,by dsimp only;omega,by dsimp only;omega⟩
def Ah9 {p:C_} (h:Kp p) (s:ByteArray):Kp (say p s):=by
 unfold say;split
 ·exact Wc h rfl rfl rfl
 ·exact h
def Ag7 {p:C_} (h:Kp p) (c:ByteArray) (w:Bool):Kp (runCode p c w):=by
 unfold runCode;split
 ·exact Wc h rfl rfl rfl
 ·exact Wc h rfl rfl rfl
def AfC {p:C_} (h:Kp p):Kp (takeToken p).1:=by
 unfold takeToken;split
 ·exact h
 ·have ht:Kp (taken p (p.bn.getD 0 default)):=Wc h rfl rfl rfl;show Kp (takeTok p _);unfold takeTok;split
  ·exact Zv ht _ _
  ·split
   ·exact Ad5 ht _
   ·exact ht
def Agp {p:C_} (h:Kp p):Kp { p with block:=0 }:=⟨h.1,by dsimp only;omega,by dsimp only;omega⟩
def AcN {p:C_} (h:Kp p):Kp (stepParser p).1:=by
 unfold stepParser;split
 ·unfold stepInline;split
  ·exact Wc (Ag7 h _ _) rfl rfl rfl
  ·exact h
 ·split
  ·unfold stepBlock;split
   ·exact Agp h
   ·split
    ·exact h
    ·split
     ·exact Agp (Ag7 h _ _)
     ·exact Agp h
  ·exact AfC h
def Qc (p:C_):∀ (l:List D_) (q:C_),Kp q->Kp (enterAll p q l)
 | [],q,h=>h
 | b::l,q,h=>by
  refine Qc p l (enter1 p q b) ?_;unfold enter1;split
  ·exact h
  ·exact Wc h rfl rfl rfl
def Afw {p:C_} (h:Kp p) (a:D_):Kp (enter p a):=by
 unfold enter;split
 ·exact Ah9 h _
 ·exact Qc p _ p h
def AhW {p:C_} (h:Kp p):Kp (stepTail p).1:=by
 unfold stepTail;split
 ·exact h
 ·split
  ·unfold tailDefer;split
   ·exact h
   ·split
    ·exact Wc (Ag7 h _ _) rfl rfl rfl
    ·exact Wc h rfl rfl rfl
  ·split
   ·unfold tailEnter;split
    ·exact h
    ·exact Wc (Afw h _) rfl rfl rfl
   ·split
    ·exact h
    ·exact Wc (Ah9 h _) rfl rfl rfl
def Af8:∀ (n:Nat) (p:C_),Kp p->Kp (adv n p)
 | 0,p,h=>h
 | n+1,p,h=>by
  rw[adv];split
  ·refine Af8 n _ ?_;unfold step1;split
   ·exact AcN h
   ·exact AhW h
  ·exact h
def Aew:∀ (l:List D_) (p:C_),Kp p->(∀ b,b∈l->b.host.size<=8/\b.path.size<=8)->Kp (l.foldl askModule p)
 | [],p,h,_=>h
 | b::l,p,h,hb=>Aew l (askModule p b) (AhJ h (by have:=hb b cZ;simp only[szAddr];omega)) λc hc=>hb c (cJ _ hc)
def AcS (p:C_) (a:D_) (x:R_) (s:ay):(fillF p a x s).to=s.to:=by
 unfold fillF;split
 ·unfold fillS;split<;>rfl
 ·rfl
def J6 {α:Type} {f:α->α} {m:α}:∀ {l:List α} {i:Nat},m∈l.modify i f->m∈l\/∃ z,z∈l/\m=f z
 | [],0,h=>.inl h
 | [],_+1,h=>.inl h
 | z::l,0,h=>by
  rcases cp.1 (show m∈f z::l from h) with q|q
  ·exact .inr ⟨z,cZ,q⟩
  ·exact .inl (cJ _ q)
 | z::l,i+1,h=>by
  rcases cp.1 (show m∈z::l.modify i f from h) with q|q
  ·exact .inl (by rw[q];exact cZ)
  ·rcases J6 q with q|⟨w,h1,h2⟩
   ·exact .inl (cJ _ q)
   ·exact .inr ⟨w,cJ _ h1,h2⟩
def Ac2 {p:C_} (h:Kp p) (a:D_) (x:R_):Kp (fillM0 p a x):=by
 refine⟨⟨h.1.1,λm hm=>?_⟩,h.2⟩;rcases J6 (show m∈p.bh.modify (findMod p.bh a).toNat (fillM p x) from hm) with q|⟨z,h1,h2⟩
 ·exact h.1.2 m q
 ·rw[h2];exact h.1.2 z h1
def R7 {p:C_} (h:Kp p) (a:D_) (x:R_):Kp (takeAnswer p a x):=by
 have h1:Kp (fillAll p a x):=by refine⟨⟨λs hs=>?_,h.1.2⟩,h.2⟩;obtain⟨z,hz,rfl⟩:=eu.1 (show s∈p.bf.map (fillF p a x) from hs);rw[AcS];exact h.1.1 z hz
 refine Af8 2000 _ ?_;unfold fillModule;split
 ·exact h1
 ·rename_i hc;exact Aew _ _ (Ac2 h1 a x) (MG (x:=x) (show 0<=findMod (fillAll p a x).bh a from o_)).1
def AhM {p:C_} (h:Kp p) (s:ByteArray):Kp (arriveText p s):=by
 unfold arriveText;split
 ·exact h
 ·exact Wc h rfl rfl rfl
def AiP {p:C_} (h:Kp p):Kp (endPage p):=by
 unfold endPage;split
 ·exact h
 ·exact Wc h rfl rfl rfl
def IT (p:C_) (m:Int) (to d:ByteArray) (n:Int):(addSlot p m to d n).1.tok=p.tok:=by unfold addSlot;split<;>rfl
def AbA (p:C_) (a:D_):(askModule p a).tok=p.tok:=by unfold askModule;split<;>rfl
def Sn (p:C_) (to:ByteArray):(addEntry p to).tok=p.tok:=by
 unfold addEntry;split
 ·exact AbA p _
 ·rfl
def UQ (p:C_) (t:ao) (n:Int):(element p t n).tok=p.tok:=by
 unfold element;split
 ·exact IT ..
 ·split
  ·exact IT ..
  ·rfl
def W7 (p:C_) (n:Int):(script p n).tok=p.tok:=by
 unfold script;split
 ·split<;>rfl
 ·split
  ·exact IT ..
  ·split
   ·exact Sn ..
   ·exact IT p ..
def Za (p:C_) (s:ByteArray):(say p s).tok=p.tok:=by unfold say;split<;>rfl
def KB (p:C_) (c:ByteArray) (w:Bool):(runCode p c w).tok=p.tok:=by unfold runCode;split<;>rfl
def Qt (p:C_):(takeToken p).1.tok=p.tok:=by
 unfold takeToken;split
 ·rfl
 ·show(takeTok p _).tok=_;unfold takeTok;split
  ·exact UQ _ _ _
  ·split
   ·exact W7 _ _
   ·rfl
def XI (p:C_):(stepParser p).1.tok=p.tok:=by
 unfold stepParser;split
 ·unfold stepInline;split
  ·exact KB _ _ _
  ·rfl
 ·split
  ·unfold stepBlock;split
   ·rfl
   ·split
    ·rfl
    ·split
     ·exact KB _ _ _
     ·rfl
  ·exact Qt p
def MZ (p:C_):∀ (l:List D_) (q:C_),(enterAll p q l).tok=q.tok
 | [],q=>rfl
 | b::l,q=>by have:=MZ p l (enter1 p q b);refine this.trans ?_;unfold enter1;split<;>rfl
def Abq (p:C_) (a:D_):(enter p a).tok=p.tok:=by
 unfold enter;split
 ·exact Za _ _
 ·exact MZ p _ p
def AcG (p:C_):(stepTail p).1.tok=p.tok:=by
 unfold stepTail;split
 ·rfl
 ·split
  ·unfold tailDefer;split
   ·rfl
   ·split
    ·exact KB _ _ _
    ·rfl
  ·split
   ·unfold tailEnter;split
    ·rfl
    ·exact Abq _ _
   ·split
    ·rfl
    ·exact Za _ _
def Vc:∀ (n:Nat) (p:C_),(adv n p).tok=p.tok
 | 0,p=>rfl
 | n+1,p=>by
  rw[adv];split
  ·refine(Vc n _).trans ?_;unfold step1;split
   ·exact XI p
   ·exact AcG p
  ·rfl
def VH:∀ (l:List D_) (p:C_),(l.foldl askModule p).tok=p.tok
 | [],p=>rfl
 | b::l,p=>(VH l (askModule p b)).trans (AbA p b)
def P6 (p:C_) (a:D_) (x:R_):(takeAnswer p a x).tok=p.tok:=by
 refine(Vc 2000 _).trans ?_;unfold fillModule;split
 ·rfl
 ·exact VH _ _
def Abk {all:List bU}:∀ {l:List bU} {k:Int},entOk all l k=true->∀ e,e∈l->Ad e.bd<=700
 | [],_,_,e,he=>by cases he
 | y::l,k,h,e,he=>K4 (JS h e he)
def okNg (G:Nat) (n:az):Prop:=szL An n.servers<=1048576/\szCache n.cache<=2097152/\(∀ e,e∈n.cache.bg->Ad e.bd<=1048576)/\szL Ge n.log+2100000*G<=7000000000
def X4 {G:Nat} {n:az} (h:okNg G n):okNt n:=⟨by simp only[szNet];have:=h.1;have:=h.2.1;have:=h.2.2.2;omega,by have:=h.2.1;omega,h.1,h.2.2.1⟩
def Ajj {G:Nat} {n:az} (h:okNg G n):okNk n:=⟨by simp only[szNet];have:=h.1;have:=h.2.2.2;omega,by have:=h.2.1;omega⟩
def Mt {G:Nat} {n:az} (h:okNg (G+1) n):okNg G n:=⟨h.1,h.2.1,h.2.2.1,by have:=h.2.2.2;omega⟩
def keep_ng {G:Nat} {n:az} (h:okNg G n) (t:ByteArray) (a:D_) (x:R_):okNg G (keepAnswer n t a x):=by
 unfold keepAnswer;split
 ·refine⟨h.1,K6 n.cache t a x n.now h.2.1 o_,λe he=>?_,h.2.2.2⟩;have he:e∈(storeEntry n.cache t a x n.now).bg:=he;unfold storeEntry at he;split at he
  ·rename_i q;have q:=q.2.2.2;unfold isCache at q;rw[Z_] at q;exact bT (Abk q.1 e he) o_
  ·exact h.2.2.1 e he
 ·exact h
def Aek {G:Nat} {n:az} (h:okNg (G+1) n) {t:ByteArray} {a:D_} (g:Bool) (ht:t.size<=2097152) (ha:szAddr a<=16):okNg G (logSent n t a g):=by
 have h4:=h.2.2.2;unfold logSent;split
 ·refine⟨h.1,h.2.1,h.2.2.1,?_⟩;show szL Ge (n.log++[⟨t,a,g⟩])+2100000*G<=7000000000;rw[Ek];simp only[Ge];omega
 ·exact Mt h
def R8 {G:Nat} {n:az} (h:okNg (G+1) n) {t:ByteArray} (a:D_) (g:Bool) (ht:t.size<=2097152):okNg G (fetchNow n t a g).1:=by
 unfold fetchNow;split
 ·exact Mt h
 ·rename_i hn;split
  ·exact Mt h
  ·have ha:szAddr a<=16:=by
    have e:(isName a.host&&isName a.path)=true:=by
     cases q:(isName a.host&&isName a.path) with
     | true=>rfl
     | false=>exact absurd (by first|exact q|(rw[q];rfl)|(simp[q])) hn
    rw[Z_] at e;have a1:=HJ e.1;have a2:=HJ e.2;simp only[szAddr];omega
   dsimp only;split
   ·exact Aek h g ht ha
   ·exact keep_ng (Aek h g ht ha) _ _ _
def okL (G:Nat) (l:N_):Prop:=(∃ Q M R,okAll l.page Q M R/\Q+740000*l.conns.length+8000000*G<=889000000000/\M+600*wCs l.conns+250000*G<=48000000000/\R+20*wCs l.conns+10000*G<=18000000000)/\(Kp l.page/\l.page.addr.host.size<=2097152/\l.page.tok.rest.size+szL Af l.parts<=2900000)/\(okCs l.conns/\l.conns.length<=1048576/\l.guesses.length+l.conns.length+G<=4194304/\okGs l.guesses)/\okNg G l.net
def H2 {G:Nat} {l:N_} (h:okL (G+1) l):okL G l:=by
 obtain⟨⟨Q,M,R,h1,h2,h3,h4⟩,h5,⟨h6,h7,h8,h9⟩,h10⟩:=h;exact⟨⟨Q,M,R,h1,o_,o_,o_⟩,h5,⟨h6,h7,o_,h9⟩,Mt h10⟩
def Jh {G:Nat} {l:N_} (h:okL G l):okAct l:=by
 obtain⟨⟨Q,M,R,h1,h2,h3,h4⟩,⟨k1,k2,k3⟩,⟨h6,h7,h8,h9⟩,h10⟩:=h;have hf:okFM l.page:=⟨Q,M,R,h1,o_,o_,o_⟩;have hp:=Cy (Fb hf);have hn:=X4 h10;have hl:=Ac Af l.parts;refine⟨⟨⟨by have:=hn.1;omega,h7,o_⟩,k3,Q,M,R,h1,o_,o_,o_⟩,⟨⟨⟨hf,k1.1,o_⟩,k1.2.1,k1.2.2,o_⟩,⟨h7,h6⟩,⟨o_,h9⟩,hn⟩,⟨hn,⟨hp.1,λt ht=>?_,o_⟩,o_,h7,o_⟩,⟨⟨Q,M,R,h1,o_,o_,o_⟩,⟨h6,h7,o_⟩,Ajj h10⟩,o_⟩;have:=h1.1.1 t ht;omega
def AfQ {l:N_}:(arrPage l).addr=l.page.addr:=by
 unfold arrPage;have e:(arriveText l.page (l.parts.getD 0 default)).addr=l.page.addr:=by unfold arriveText;split<;>rfl
 split
 ·refine Eq.trans ?_ e;unfold endPage;split<;>rfl
 ·exact e
def WA {G:Nat} {l:N_} (h:okL (G+1) l):okL G (arrivePart l).1:=by
 by_cases hp:l.parts.length=0
 ·rw[AbT hp];exact H2 h
 ·rw[OI hp];obtain⟨⟨Q,M,R,h1,h2,h3,h4⟩,⟨k1,k2,k3⟩,⟨h6,h7,h8,h9⟩,h10⟩:=h;have hg:=HO (l:=l.parts) (i:=0) o_;have hz:szL Af l.parts=(l.parts.getD 0 default).size+1+szL Af (l.parts.drop 1):=by have e:szL Af l.parts=szL Af (l.parts.drop 0):=rfl;rw[e,hg,Ag]
  obtain⟨a1,a2,a3⟩:=Ael h1 o_;have hk:Kp (arrPage l):=by
   unfold arrPage;split
   ·exact AiP (AhM k1 _)
   ·exact AhM k1 _
  have et:(advance (arrPage l)).tok=(arrPage l).tok:=Vc 2000 _;have ea:(advance (arrPage l)).addr=l.page.addr:=(QK 2000 _).trans AfQ;refine⟨⟨_,_,_,Qr a2,by dsimp only;omega,by dsimp only;omega,by dsimp only;omega⟩,⟨Af8 2000 _ hk,by dsimp only;rw[ea];exact k2,by dsimp only;rw[et];omega⟩,⟨h6,h7,by dsimp only;omega,h9⟩,Mt h10⟩
def ZV {l:List V_} {a:D_} {x:R_} {g:Bool} (h:okCs l) (ha:szAddr a<=4000000) (hx:Ad x<=1048576):okCs (openConn l a x g).1/\(openConn l a x g).1.length<=l.length+1/\((openConn l a x g).1.length<=3\/(openConn l a x g).1.length<=l.length)/\wCs (openConn l a x g).1<=wCs l+400:=by
 unfold openConn;split
 ·exact⟨h,Nat.le_succ _,.inr (aa _),cw _ _⟩
 ·rename_i q;refine⟨λc hc=>?_,by simp only[al,aw,aJ];omega,.inl (by simp only[al,aw,aJ];omega),?_⟩
  ·rcases aR.1 hc with q|q
   ·exact h c q
   ·rw[List.mem_singleton.1 q];exact⟨hx,ha⟩
  ·unfold wCs;simp only[List.map_append,bZ,List.map_nil,List.sum_append,List.sum_cons,List.sum_nil];have:wB x<=400:=Nat.min_le_left _ _;omega
def Ag0 {l:List au} (h:okGs l) (a:D_):okGs (useGuess l a).1/\(useGuess l a).1.length=l.length:=by
 unfold useGuess;split
 ·exact⟨h,rfl⟩
 ·refine⟨λg hg=>?_,fE ..⟩;rcases J6 hg with q|⟨z,h1,h2⟩
  ·exact h g q
  ·rw[h2];exact h z h1
def SA {G:Nat} {l:N_} (h:okL (G+1) l):okL G (requestNext l).1:=by
 have hm:=H2 h;obtain⟨⟨Q,M,R,h1,h2,h3,h4⟩,⟨k1,k2,k3⟩,⟨h6,h7,h8,h9⟩,h10⟩:=h;have hn:=X4 h10;unfold requestNext;split
 ·exact hm
 ·rename_i hk;have ht:=Adw (l:=l) k1.1 o_;split
  ·obtain⟨g1,g2⟩:=Ag0 h9 (reqTo l);have hw:wB (useGuess l.guesses (reqTo l)).2.1<=400:=Nat.min_le_left _ _;have et:(takeAnswer l.page (reqTo l) (useGuess l.guesses (reqTo l)).2.1).tok=l.page.tok:=P6 ..;have ea:(takeAnswer l.page (reqTo l) (useGuess l.guesses (reqTo l)).2.1).addr=l.page.addr:=I7 ..;exact⟨⟨_,_,_,Mz h1 (reqTo l) (useGuess l.guesses (reqTo l)).2.1,by dsimp only;omega,by dsimp only;omega,by dsimp only;omega⟩,⟨R7 k1 _ _,by dsimp only;rw[ea];exact k2,by dsimp only;rw[et];exact k3⟩,⟨h6,h7,by dsimp only;omega,g1⟩,keep_ng (Mt h10) _ _ _⟩
  ·split
   ·exact hm
   ·obtain⟨o1,o2,o3,o4⟩:=ZV (g:=false) h6 ht (Fy (t:=l.page.addr.host) (a:=reqTo l) (g:=false) hn);exact⟨⟨Q,M,R,h1,by dsimp only;omega,by dsimp only;omega,by dsimp only;omega⟩,⟨k1,k2,k3⟩,⟨o1,by dsimp only;omega,by dsimp only;omega,h9⟩,R8 h10 _ _ k2⟩
def AeN {G:Nat} {l:N_} (h:okL (G+1) l):∀ m:List D_,(∀ a,a∈m->szAddr a<=16)->okL G (nextGuess l m).1
 | [],_=>H2 h
 | a::m,hm=>by
  rw[nextGuess];split
  ·exact AeN h m λb hb=>hm b (cJ _ hb)
  ·obtain⟨⟨Q,M,R,h1,h2,h3,h4⟩,⟨k1,k2,k3⟩,⟨h6,h7,h8,h9⟩,h10⟩:=h;have ha:=hm a cZ;obtain⟨o1,o2,o3,o4⟩:=ZV (g:=true) h6 (show szAddr a<=4000000 from o_) (Fy (t:=l.page.addr.host) (a:=a) (g:=true) (X4 h10));exact⟨⟨Q,M,R,h1,by dsimp only;omega,by dsimp only;omega,by dsimp only;omega⟩,⟨k1,k2,k3⟩,⟨o1,by dsimp only;omega,by dsimp only;omega,h9⟩,R8 h10 _ _ k2⟩
def AbL {G:Nat} {l:N_} (h:okL (G+1) l):okL G (guessNext l).1:=by
 unfold guessNext;split
 ·exact H2 h
 ·refine AeN h _ λa ha=>?_
  obtain⟨i,hi,he⟩:=List.mem_iff_getElem.1 ha;have:=HX (p:=l.page) hi;rw[cd,aX hi,he] at this;exact this
def AgE {l:List au} {a:D_} {x:R_} (h:okGs l) (hx:Ad x<=1048576):okGs (addGuess l a x).1:=by
 unfold addGuess;split
 ·exact h
 ·intro g hg;rcases aR.1 hg with q|q
  ·exact h g q
  ·rw[List.mem_singleton.1 q];exact hx
def Aea {G:Nat} {l:N_} {k:Int} (h:okL G l) (h0:0<=k) (hk:k<l.conns.length):okL G (finish1 l k):=by
 obtain⟨⟨Q,M,R,h1,h2,h3,h4⟩,⟨k1,k2,k3⟩,⟨h6,h7,h8,h9⟩,h10⟩:=h;have c1:=JI h0 hk;have c2:=S5 h0 hk;have c3:=We h0 hk h6;have ha:=Mz h1 (l.conns.getD k.toNat default).to (l.conns.getD k.toNat default).bd;have hg:=VP l.guesses (l.conns.getD k.toNat default).to (l.conns.getD k.toNat default).bd;have hr:=(h6 _ (AH (show k.toNat<l.conns.length from o_))).1;have hgo:=AgE (a:=(l.conns.getD k.toNat default).to) h9 hr;have et:(takeAnswer l.page (l.conns.getD k.toNat default).to (l.conns.getD k.toNat default).bd).tok=l.page.tok:=P6 ..;have ea:(takeAnswer l.page (l.conns.getD k.toNat default).to (l.conns.getD k.toNat default).bd).addr=l.page.addr:=I7 ..;unfold finish1 finishC;dsimp only;split
 ·split
  ·exact⟨⟨_,_,_,ha,by dsimp only;omega,by dsimp only;omega,by dsimp only;omega⟩,⟨R7 k1 _ _,by dsimp only;rw[ea];exact k2,by dsimp only;rw[et];exact k3⟩,⟨c3,by dsimp only;omega,by dsimp only;omega,h9⟩,keep_ng h10 _ _ _⟩
  ·exact⟨⟨_,_,_,ha,by dsimp only;omega,by dsimp only;omega,by dsimp only;omega⟩,⟨R7 k1 _ _,by dsimp only;rw[ea];exact k2,by dsimp only;rw[et];exact k3⟩,⟨c3,by dsimp only;omega,by dsimp only;omega,h9⟩,h10⟩
 ·split
  ·exact⟨⟨_,_,_,h1,by dsimp only;omega,by dsimp only;omega,by dsimp only;omega⟩,⟨k1,k2,k3⟩,⟨c3,by dsimp only;omega,by dsimp only;omega,hgo⟩,h10⟩
  ·exact⟨⟨_,_,_,h1,by dsimp only;omega,by dsimp only;omega,by dsimp only;omega⟩,⟨k1,k2,k3⟩,⟨c3,by dsimp only;omega,by dsimp only;omega,h9⟩,h10⟩
def Aem {G:Nat}:∀ (n:Nat) (l:N_),okL G l->okL G (xfer n l)
 | 0,l,h=>h
 | n+1,l,h=>by
  rw[xfer];split
  ·exact h
  ·have hd:=Da l.conns 0 o_;exact Aem n _ (Aea h o_ o_)
def Agx {G:Nat} {l:N_} (h:okL G l) (b:Int):okL G (moved l b):=by
 obtain⟨⟨Q,M,R,h1,h2,h3,h4⟩,⟨k1,k2,k3⟩,⟨h6,h7,h8,h9⟩,h10⟩:=h;have e1:=Cb l.conns b;have e2:=AeX l.conns b;unfold moved;exact⟨⟨Q,M,R,h1,by dsimp only;omega,by dsimp only;omega,by dsimp only;omega⟩,⟨k1,k2,k3⟩,⟨Aa6 b h6,by dsimp only;omega,by dsimp only;omega,h9⟩,h10⟩
def L0 {G:Nat} {l:N_} (h:okL G l) (b:Int):okL G (transfer l b).1:=by
 unfold transfer;split
 ·exact h
 ·exact Aem _ _ (Agx h b)
def Ai7 {G:Nat} {l:N_} (h:okL (G+1) l) (n:Int):okL G (actOf l n).1:=by
 unfold actOf;split
 ·exact WA h
 ·split
  ·exact SA h
  ·split
   ·exact AbL h
   ·split
    ·exact L0 (H2 h) 20
    ·exact L0 (H2 h) 200
def AaN {G:Nat} {l:N_} (h:okL (G+1) l) (c:Int):∀ n,okL G (stepR l c n).1
 | 0=>H2 h
 | n+1=>by
  rw[stepR];split
  ·exact Ai7 h _
  ·exact AaN h c n
def Sy {G:Nat} {l:N_} (h:okL (G+1) l) (c:Int):okL G (stepLoad l c).1:=AaN h c 5
def finL (l:N_):Bool:=l.page.loaded&&decide (l.parts.length=0)
def stepTo (l:N_) (c:Int):N_:=(stepLoad l c).1
def runB:Nat->N_->N_
 | 0,l=>l
 | n+1,l=>if finL l=true then l else if(stepLoad l 0).2=true then runB n (stepTo l 0) else l
def runLoad (l:N_) (cs:List Int):N_:=runB 1000 ((cs.take 100).foldl stepTo l)
def Abu {G H:Nat} {l:N_} (h:okL H l) (hle:G<=H):okL G l:=by
 obtain⟨⟨Q,M,R,h1,h2,h3,h4⟩,h5,⟨h6,h7,h8,h9⟩,n1,n2,n3,n4⟩:=h;exact⟨⟨Q,M,R,h1,o_,o_,o_⟩,h5,⟨h6,h7,o_,h9⟩,n1,n2,n3,o_⟩
def JP {G:Nat} {l:N_} (h:okL G l):szNet l.net<=68719476736/\Aj l.page<=1099511627776/\l.parts.length<=1000000000/\l.conns.length<=1048576/\l.guesses.length<=4194304:=LM (Jh h).2.2.2.1 (Jh h).2.2.2.2
def Ag8 {cs:List Int} {i:Nat} {o T:N_} (h:((cs.take 100).drop i).foldl stepTo o=T) (hi:i<(cs.take 100).length):((cs.take 100).drop (i+1)).foldl stepTo (stepLoad o (cs.getD i default)).1=T:=by
 rw[HO hi,List.foldl_cons] at h;have e:(cs.take 100).getD i default=cs.getD i default:=by rw[bS] at hi;rw[cd,cd,List.getElem?_take_of_lt o_]
 rw[e] at h;exact h
def AdA {cs:List Int} {i:Nat} {o T:N_} (h:((cs.take 100).drop i).foldl stepTo o=T) (hi:i<(cs.take 100).length):((cs.take 100).drop (i+1)).foldl stepTo (stepLoad o ((cs.take 100).getD i default)).1=T:=by
 rw[HO hi,List.foldl_cons] at h;exact h
def WC {cs:List Int} {i:Nat} {o T:N_} (h:((cs.take 100).drop i).foldl stepTo o=T) (hi:(cs.take 100).length<=i):o=T:=by
 rw[bR hi] at h;exact h
def VL {l:N_} (h:finL l=true):∀ n,runB n l=l
 | 0=>rfl
 | n+1=>by rw[runB,I_ h]
def Aag {l:N_} (h:finL l=false) (h2:(stepLoad l 0).2=false):∀ n,runB n l=l
 | 0=>rfl
 | n+1=>by rw[runB,J_ (by rw[h];decide),J_ (by rw[h2];decide)]
def Aah {l:N_} {n:Nat} (h:finL l=false) (h2:(stepLoad l 0).2=true):runB (n+1) l=runB n (stepLoad l 0).1:=by
 rw[runB,J_ (by rw[h];decide),I_ h2];rfl
def Aei {l T:N_} {i:Int} (h:runB (1000-i.toNat) l=T) (hi:1000<=i):l=T:=by
 rw[show 1000-i.toNat=0 from o_] at h;exact h
def Aex (cs:List Int):∀ {i:Decidable ((cs.length:Int)<100)},cut cs 0 ((@ite _ ((cs.length:Int)<100) i (cs.length:Int) 100).toNat-0)=cs.take 100:=by
 intro i;unfold cut;rw[dt];split
 ·rw[ct o_,ct o_]
 ·rfl
abbrev JM:Fct:=⟨[.v (.el .loader),.v (.sl .int)],[.el .loader],λ(x:de)=>okL 1100 x.1/\x.2.1.length<=1048576,λ(x:de)=>(runLoad x.1 x.2.1,())⟩
abbrev EV (l:N_) (cs:(List Int)):LInv:=⟨[⟨.b,5,true,.el .loader⟩,⟨.s,6,true,.el .int⟩,⟨.b,4,true,.el .loader⟩],λ(z x:aq)=>(0<=x.2.1/\x.2.1<=(cs.take 100).length/\((cs.take 100).drop x.2.1.toNat).foldl stepTo x.1=(cs.take 100).foldl stepTo l/\okL (1100-x.2.1.toNat) x.1)/\x.2.2.1=z.2.2.1,λ(x:aq)=>100-x.2.1.toNat⟩
abbrev EN (l:N_) (cs:(List Int)):LInv:=⟨[⟨.b,5,true,.el .loader⟩,⟨.s,9,true,.el .int⟩,⟨.b,4,true,.el .loader⟩],λ(z x:aq)=>(0<=x.2.1/\x.2.1<=1000/\runB (1000-x.2.1.toNat) x.1=runLoad l cs/\okL (1000-x.2.1.toNat) x.1)/\x.2.2.1=z.2.2.1,λ(x:aq)=>1000-x.2.1.toNat⟩
def Amp:=Ald.a JM<|Fct.p (KP [1,2,4,5,6,7,9,10,11] [21,40,49]) (λ⟨l,cs,_⟩=>λ|3=>some (EV l cs)|8=>some (EN l cs)|_=>none) Ald.2 func103 (by
 rintro⟨(l:N_),(cs:List Int),_⟩ hp;refine ho (.cl A9 (l,()) λz2=>lpx (EV l cs) (z2.1,((0:Int),(default,()))) λ(y2:aq) bk2=>let E_:=lpx (EN l cs) (y2.1,((0:Int),(y2.2.2.1,()))) λ(y8:aq) bk8=>let H_:Out:=.lf JM (y8.1,());.br (decide (y8.2.1<1000)) (.cl D6 (y8.1,()) λz4=>.br (!z4.1) (.cl DZ (y8.1,(0:Int),()) λz5=>.br (!z5.2.1) H_ (.re (Value.int IntKind.i64 y2.2.1)<|.re (cs)<|.bk (bk8 (z5.1,(w1 y8.2.1,(y8.2.2.1,())))))) H_) H_;.br (decide (y2.2.1<(cs.length:Int))) (.br (decide (y2.2.1<100)) (.ob (inB y2.2.1 cs.length)<|.cl DZ (y2.1,cs.getD y2.2.1.toNat default,()) λz3=>.re (cs)<|.bk (bk2 (z3.1,(w1 y2.2.1,(y2.2.2.1,()))))) E_) E_) ?_;refine Ae ?_ λ_=>(Am ?_ λ(y2:aq) i2=>Aa (λh3=>Aa (λh4=>Ab ?_ λ_=>Ae ?_ λ_=>(Ai<|AR ?_)) λh4=>Am ?_ λ(y8:aq) i8=>Aa (λh9=>Ae trivial λ_=>Aa (λh10=>Ae ?_ λ_=>Aa (λh12=>lfY ?_) λh12=>Ai<|Ai<|AR ?_) λh10=>lfY ?_) λh9=>lfY ?_) λh3=>Am ?_ λ(y14:aq) i14=>Aa (λh15=>Ae trivial λ_=>Aa (λh16=>Ae ?_ λ_=>Aa (λh18=>lfY ?_) λh18=>Ai<|Ai<|AR ?_) λh16=>lfY ?_) λh15=>lfY ?_)<;>obtain⟨q1,q2⟩:=(show okL 1100 l/\cs.length<=1048576 from hp)<;>(try simp only[std,Nat.reduceAdd] at *)<;>have hk:(cs.take 100).length=min 100 cs.length:=bS ..<;>(first|trivial|omega|exact JP q1|exact⟨o_,o_,rfl,q1⟩|exact⟨o_,o_,q1⟩|skip)<;>(obtain⟨⟨a1,a2,a3,a4⟩,e1⟩:=i2)<;>(first|omega|exact Jh a4|exact JP a4|skip)<;>(first|(rw[Ah o_,show(y2.2.1+1).toNat=y2.2.1.toNat+1 from o_];rw[show 1100-y2.2.1.toNat=1100-(y2.2.1.toNat+1)+1 from o_] at a4;exact⟨⟨⟨o_,o_,Ag8 a3 o_,Sy a4 _⟩,e1⟩,o_⟩)|skip)<;>have hT:=WC a3 o_<;>(first|exact⟨o_,o_,(show runB 1000 _=_ by unfold runLoad;rw[<-hT]),Abu a4 o_⟩|skip)<;>(first|(obtain⟨⟨b1,b2,b3,b4⟩,f1⟩:=i8;obtain⟨yo,yi,yz⟩:=y8)|(obtain⟨⟨b1,b2,b3,b4⟩,f1⟩:=i14;obtain⟨yo,yi,yz⟩:=y14))<;>dsimp only at *<;>(first|omega|exact Jh b4|exact JP b4|exact Aei b3 o_|(rw[VL ‹_›] at b3;exact b3)|(rw[Aag ‹_› ‹_›] at b3;exact b3)|skip)<;>rw[Ah o_,show(yi+1).toNat=yi.toNat+1 from o_]<;>rw[show 1000-yi.toNat=1000-(yi.toNat+1)+1 from o_] at b3 b4<;>rw[Aah ‹_› ‹_›] at b3<;>exact⟨⟨⟨o_,o_,b3,Sy b4 _⟩,f1⟩,o_⟩)
abbrev ET (l:N_) (cs:(List Int)):LInv:=⟨[⟨.b,5,true,.el .loader⟩,⟨.s,19,true,.el .int⟩,⟨.b,4,true,.el .loader⟩],λ(z x:aq)=>(0<=x.2.1/\x.2.1<=(cs.take 100).length/\((cs.take 100).drop x.2.1.toNat).foldl stepTo x.1=(cs.take 100).foldl stepTo l/\okL (1100-x.2.1.toNat) x.1)/\x.2.2.1=z.2.2.1,λ(x:aq)=>100-x.2.1.toNat⟩
abbrev EG (l:N_) (cs:(List Int)):LInv:=⟨[⟨.b,5,true,.el .loader⟩,⟨.s,8,true,.el .int⟩,⟨.b,4,true,.el .loader⟩],λ(z x:aq)=>(0<=x.2.1/\x.2.1<=1000/\runB (1000-x.2.1.toNat) x.1=runLoad l cs/\okL (1000-x.2.1.toNat) x.1)/\x.2.2.1=z.2.2.1,λ(x:aq)=>1000-x.2.1.toNat⟩
def Ala:=Amp.a JM<|Fct.p (KP [1,2,4,5,7,8,9,10,17,18,19] [20,36,45]) (λ⟨l,cs,_⟩=>λ|3=>some (ET l cs)|8=>some (EG l cs)|_=>none) Amp.2 func26 (by
 rintro⟨(l:N_),(cs:List Int),_⟩ hp;refine ho (let H_:=(cs.length:Int);let Q_:=if H_<100 then H_ else(100:Int);let E_:=cut cs 0 (Q_.toNat-0);let L_:=(E_.length:Int);let U_:=Value.int IntKind.i64 L_;.cl A9 (l,()) λz2=>.ob ((0<=if H_<100 then H_ else(100:Int))/\Q_<=H_)<|lpx (ET l cs) (z2.1,((0:Int),(default,()))) λ(y3:aq) bk3=>.br (decide (y3.2.1<L_)) (.ob (0<=y3.2.1/\y3.2.1<L_)<|.cl DZ (y3.1,E_.getD y3.2.1.toNat default,()) λz3=>.re (cs)<|.re E_<|.re U_<|.bk (bk3 (z3.1,(w1 y3.2.1,(y3.2.2.1,()))))) (lpx (EG l cs) (y3.1,((0:Int),(y3.2.2.1,()))) λ(y8:aq) bk8=>let M_:Out:=.lf JM (y8.1,());.br (decide (y8.2.1<1000)) (.cl D6 (y8.1,()) λz4=>.br (!z4.1) (.cl DZ (y8.1,(0:Int),()) λz5=>.br (!z5.2.1) M_ (.re (Value.int IntKind.i64 y3.2.1)<|.re (cs)<|.re E_<|.re U_<|.bk (bk8 (z5.1,(w1 y8.2.1,(y8.2.2.1,())))))) M_) M_)) ?_;refine Ae ?_ λ_=>(Ab ?_ λ_=>Am ?_ λ(y3:aq) i3=>Aa (λh4=>Ab ?_ λ_=>Ae ?_ λ_=>(Ai<|Ai<|Ai<|AR ?_)) λh4=>Am ?_ λ(y8:aq) i8=>Aa (λh9=>Ae trivial λ_=>Aa (λh10=>Ae ?_ λ_=>Aa (λh12=>lfY ?_) λh12=>Ai<|Ai<|Ai<|Ai<|AR ?_) λh10=>lfY ?_) λh9=>lfY ?_)<;>obtain⟨q1,q2⟩:=(show okL 1100 l/\cs.length<=1048576 from hp)<;>(try simp only[Aex] at *)<;>(try simp only[std,Nat.reduceAdd] at *)<;>(try simp only[Aex] at *)<;>have hk:(cs.take 100).length=min 100 cs.length:=bS ..<;>(first|trivial|omega|exact JP q1|exact⟨o_,o_,rfl,q1⟩|exact⟨o_,o_,q1⟩|skip)<;>(obtain⟨⟨a1,a2,a3,a4⟩,e1⟩:=i3)<;>(first|omega|exact Jh a4|exact JP a4|skip)<;>(first|(rw[Ah o_,show(y3.2.1+1).toNat=y3.2.1.toNat+1 from o_];rw[show 1100-y3.2.1.toNat=1100-(y3.2.1.toNat+1)+1 from o_] at a4;exact⟨⟨⟨o_,o_,AdA a3 o_,Sy a4 _⟩,e1⟩,o_⟩)|skip)<;>have hT:=WC a3 o_<;>(first|exact⟨o_,o_,(show runB 1000 _=_ by unfold runLoad;rw[<-hT]),Abu a4 o_⟩|skip)<;>(first|(obtain⟨⟨b1,b2,b3,b4⟩,f1⟩:=i8;obtain⟨yo,yi,yz⟩:=y8)|(obtain⟨⟨b1,b2,b3,b4⟩,f1⟩:=i14;obtain⟨yo,yi,yz⟩:=y14))<;>dsimp only at *<;>(first|omega|exact Jh b4|exact JP b4|exact Aei b3 o_|(rw[VL ‹_›] at b3;exact b3)|(rw[Aag ‹_› ‹_›] at b3;exact b3)|skip)<;>rw[Ah o_,show(yi+1).toNat=yi.toNat+1 from o_]<;>rw[show 1000-yi.toNat=1000-(yi.toNat+1)+1 from o_] at b3 b4<;>rw[Aah ‹_› ‹_›] at b3<;>exact⟨⟨⟨o_,o_,b3,Sy b4 _⟩,f1⟩,o_⟩)
def wS (l:N_):Nat:=szL GQ l.conns+szL Fl l.guesses
def AgD (l:List au) (a:D_):szL Fl (useGuess l a).1=szL Fl l:=by
 unfold useGuess;split
 ·rfl
 ·have key:∀ (m:List au) (i:Nat),szL Fl (m.modify i λg=>{ g with used:=true })=szL Fl m:=by
   intro m
   induction m with
   | nil=>intro i;cases i<;>rfl
   | cons g m ih=>
    intro i;cases i with
    | zero=>show szL Fl (_::m)=_;rw[Ag,Ag];rfl
    | succ i=>show szL Fl (g::m.modify i _)=_;rw[Ag,Ag,ih]
  exact key _ _
def XA {G:Nat} {l:N_} (h:okL (G+1) l):wS (requestNext l).1<=wS l+5100000:=by
 obtain⟨⟨Q,M,R,h1,h2,h3,h4⟩,⟨k1,k2,k3⟩,⟨h6,h7,h8,h9⟩,h10⟩:=h;unfold requestNext;split
 ·exact cw _ _
 ·rename_i hk;have ht:=Adw (l:=l) k1.1 o_;split
  ·have e:=AgD l.guesses (reqTo l);unfold wS;dsimp only;omega
  ·split
   ·exact cw _ _
   ·have o:=AaR l.conns (reqTo l) (fetchNow l.net l.page.addr.host (reqTo l) false).2 false;have r:=Fy (t:=l.page.addr.host) (a:=reqTo l) (g:=false) (X4 h10);unfold wS;dsimp only;omega
def AaG {G:Nat} {l:N_} (h:okL (G+1) l):∀ m:List D_,(∀ a,a∈m->szAddr a<=16)->wS (nextGuess l m).1<=wS l+5100000
 | [],_=>cw _ _
 | a::m,hm=>by
  rw[nextGuess];split
  ·exact AaG h m λb hb=>hm b (cJ _ hb)
  ·obtain⟨_,_,_,h10⟩:=h;have ha:=hm a cZ;have o:=AaR l.conns a (fetchNow l.net l.page.addr.host a true).2 true;have r:=Fy (t:=l.page.addr.host) (a:=a) (g:=true) (X4 h10);unfold wS;dsimp only;omega
def Acu {G:Nat} {l:N_} (h:okL (G+1) l):wS (guessNext l).1<=wS l+5100000:=by
 unfold guessNext;split
 ·exact cw _ _
 ·refine AaG h _ λa ha=>?_
  obtain⟨i,hi,he⟩:=List.mem_iff_getElem.1 ha;have:=HX (p:=l.page) hi;rw[cd,aX hi,he] at this;exact this
def ZA:∀ (n:Nat) (l:N_),wS (xfer n l)<=wS l
 | 0,l=>aa _
 | n+1,l=>by
  rw[xfer];split
  ·exact aa _
  ·have hd:=Da l.conns 0 o_;exact bT (ZA n _) (AhS o_ o_)
def KL (l:N_) (b:Int):wS (transfer l b).1<=wS l:=by
 unfold transfer;split
 ·exact aa _
 ·refine bT (ZA _ _) ?_;have:=AgR l.conns b;unfold wS moved;dsimp only;omega
def Ww {G:Nat} {l:N_} (h:okL (G+1) l) (n:Int):wS (actOf l n).1<=wS l+5100000:=by
 unfold actOf;split
 ·unfold arrivePart;split
  ·exact cw _ _
  ·exact cw _ _
 ·split
  ·exact XA h
  ·split
   ·exact Acu h
   ·split
    ·exact bT (KL l 20) (cw _ _)
    ·exact bT (KL l 200) (cw _ _)
def Aae {G:Nat} {l:N_} (h:okL (G+1) l) (c:Int):∀ n,wS (stepR l c n).1<=wS l+5100000
 | 0=>cw _ _
 | n+1=>by
  rw[stepR];split
  ·exact Ww h _
  ·exact Aae h c n
def okW (G:Nat) (l:N_):Prop:=okL G l/\wS l+5100000*G<=10000000000
def ZW {G:Nat} {l:N_} (h:okW (G+1) l) (c:Int):okW G (stepLoad l c).1:=by
 have:=Aae h.1 c 5;have h2:=h.2;exact⟨Sy h.1 c,by unfold stepLoad;omega⟩
def Aep:∀ (cs:List Int) (G:Nat) (l:N_),okW (G+cs.length) l->okW G (cs.foldl stepTo l)
 | [],G,l,h=>h
 | c::cs,G,l,h=>by rw[List.foldl_cons];refine Aep cs G _ (ZW (G:=G+cs.length) ?_ c);rw[aw] at h;exact h
def Jw {G H:Nat} {l:N_} (h:okW H l) (hle:G<=H):okW G l:=⟨Abu h.1 hle,by have:=h.2;omega⟩
def AeJ:∀ (n:Nat) (l:N_),okW n l->okW 0 (runB n l)
 | 0,l,h=>h
 | n+1,l,h=>by
  rw[runB];split
  ·exact Jw h o_
  ·split
   ·exact AeJ n _ (ZW h 0)
   ·exact Jw h o_
def Aif {l:N_} (h:okW 1100 l) (cs:List Int):okW 0 (runLoad l cs):=by
 unfold runLoad;refine AeJ 1000 _ (Aep _ _ _ (Jw h ?_));rw[bS];omega
def Aib {l:N_} (h:okW 0 l):Vq l<=1125899906842624/\szNet l.net<=8000000000/\Aj l.page<=1000000000000:=by
 obtain⟨hl,hw⟩:=h;obtain⟨⟨Q,M,R,h1,h2,h3,h4⟩,⟨k1,k2,k3⟩,⟨h6,h7,h8,h9⟩,h10⟩:=hl;have hp:=JR h1 o_ o_ o_;have hn:=(X4 h10).1;refine⟨?_,hn,hp⟩;unfold wS at hw;unfold Vq;omega
def AfG (a:D_) (x:R_):okAll (newPage a x).1 2000000 1100000000 10000000/\Kp (newPage a x).1/\(newPage a x).1.addr.host.size<=2097152/\(newPage a x).1.tok.rest.size=0/\((newPage a x).2=true->isResponse x=true):=by
 unfold newPage;split
 ·rename_i h;obtain⟨h0,h1,_⟩:=h;rw[Z_] at h0;have a1:=HJ h0.1;have a2:=HJ h0.2;have h2:=K4 h1;have hp:=Ad6 x.bj;have hx:x.bj.size<=Ad x:=Nat.le_add_left _ _;refine⟨TU ?_,⟨⟨(λs hs=>nomatch (show s∈[] from hs)),(λs hs=>nomatch (show s∈[] from hs))⟩,(by decide:(-9223372036854775808:Int)<=0),(by decide:(0:Int)<=9223372036854775807)⟩,?_,rfl,λ_=>h1⟩
  ·show szAddr a+AQ (parsePolicy x.bj).1+_+_+szBuilder newBuilder+_+_+_+_+_<=2000000;have e2:szBuilder newBuilder<=100:=by decide
   simp only[Gp,szL,List.map_nil,List.sum_nil,aJ,szAddr];have e3:ByteArray.size (default:dv).rest=0:=rfl;omega
  ·show a.host.size<=2097152;omega
 ·refine⟨TU (by decide),⟨⟨(λs hs=>nomatch (show s∈[] from hs)),(λs hs=>nomatch (show s∈[] from hs))⟩,(by decide:(-9223372036854775808:Int)<=0),(by decide:(0:Int)<=9223372036854775807)⟩,(by decide),rfl,λh=>by cases h⟩
def AfB {n:az} (h:szNet n<=1048576):okNg 1201 n:=by
 simp only[szNet] at h;refine⟨o_,o_,λe he=>?_,o_⟩;have:=Jn AY (show e∈n.cache.bg from he);simp only[szCache] at h;simp only[AY] at this;omega
def Aaw {n:az} {a:D_} (cs:List Int) (h:szNet n<=1048576) (ha:szAddr a<=1048576):okW 1200 (startLoad n a cs).1:=by
 have hh:a.host.size<=szAddr a:=cw _ _;have hf:=R8 (AfB h) (t:=a.host) a false o_;obtain⟨p1,p2,p3,p4,p5⟩:=AfG a (fetchNow n a.host a false).2;have hcs:okCs []:=λc hc=>nomatch hc
 have hgs:okGs []:=λc hc=>nomatch hc
 unfold startLoad;split
 ·rename_i hb;have hr:=K4 (p5 hb);have hc:=XO (fetchNow n a.host a false).2.body cs;have hx:(fetchNow n a.host a false).2.body.size<=Ad (fetchNow n a.host a false).2:=cw _ _;refine⟨⟨⟨_,_,_,p1,?_,?_,?_⟩,⟨p2,p3,?_⟩,⟨hcs,?_,?_,hgs⟩,hf⟩,?_⟩
  ·show 2000000+740000*0+8000000*1200<=889000000000;omega
  ·show 1100000000+600*0+250000*1200<=48000000000;omega
  ·show 10000000+20*0+10000*1200<=18000000000;omega
  ·show(newPage a (fetchNow n a.host a false).2).1.tok.rest.size+szL Af (cutText (fetchNow n a.host a false).2.body cs)<=2900000;omega
  ·show 0<=1048576;omega
  ·show 0+0+1200<=4194304;omega
  ·show 0+0+5100000*1200<=10000000000;omega
 ·refine⟨⟨⟨2000000,1100000000,10000000,TU (show Aj (default:C_)<=2000000 by decide),?_,?_,?_⟩,⟨⟨⟨(λs hs=>nomatch (show s∈[] from hs)),(λs hs=>nomatch (show s∈[] from hs))⟩,(by decide:(-9223372036854775808:Int)<=0),(by decide:(0:Int)<=9223372036854775807)⟩,(show(default:C_).addr.host.size<=2097152 by decide),(show(default:C_).tok.rest.size+szL Af []<=2900000 by decide)⟩,⟨hcs,?_,?_,hgs⟩,hf⟩,?_⟩
  ·show 2000000+740000*0+8000000*1200<=889000000000;omega
  ·show 1100000000+600*0+250000*1200<=48000000000;omega
  ·show 10000000+20*0+10000*1200<=18000000000;omega
  ·show 0<=1048576;omega
  ·show 0+0+1200<=4194304;omega
  ·show 0+0+5100000*1200<=10000000000;omega
abbrev Nf:Xct:=⟨[.u,.v (.sl .str)],[.el .str],λ(x:eE)=>0<x.2.1.length/\x.2.1.length<=256/\x.2.1.all (λs=>decide (s.size<=150))=true,λ(x:eE) (y:K_)=>y.1.size<=150⟩
def Aks:=Ala.X Nf<|Xct.o [0,1,4] Ala.2 func182 (by
 rintro⟨(c:PUnit),(l:List ByteArray),_⟩ hp;refine ho (.dr BX ((),(↑(List.length l):Int),()) λ(y1:B_)=>.ob (0<=y1.1/\y1.1<(↑(List.length l):Int))<|.lx Nf (List.getD l y1.1.toNat default,())) ?_;refine CI trivial λ(y1:B_) i1=>Ab ?_ λ_=>lxY ?_<;>(try simp only[std,Nat.reduceAdd] at *)<;>(first|trivial|omega|skip)
 have hm:=AH (i:=y1.fst.toNat) (l:=l) o_;simpa using bM.1 hp.2.2 _ hm)
abbrev TY:Xct:=⟨[.u],[.el .str],λ(x:T_)=>True,λ(x:T_) (y:K_)=>y.1.size<=2000⟩
abbrev FJ (c:Unit):LInv:=⟨[⟨.s,3,true,.el .str⟩,⟨.s,4,true,.el .int⟩],λ_ (x:ai)=>0<=x.2.1/\x.2.1<=5/\x.1.size+150*x.2.1<=1000,λ(x:ai)=>x.2.1.toNat⟩
def Anf:=Aks.X TY<|Xct.p (KP [0,2,3,4] [11]) (λ⟨c,_⟩=>lv [(3,FJ c)]) Aks.2 func87 (by
 rintro⟨(c:PUnit),_⟩ hp;refine ho (let L_:=(⟨#[60,47,115,99,114,105,112,116,62]⟩:ByteArray);let H_:=(⟨#[]⟩:ByteArray);let E_:=(⟨#[60,115,99,114,105,112,116,62]⟩:ByteArray);.dr Nf ((),[H_,(⟨#[60,112,62,104,105,60,47,112,62]⟩:ByteArray),(⟨#[60,108,105,110,107,32,104,114,101,102,61,115,116,121,108,101,62]⟩:ByteArray)],()) λ(y2:K_)=>.dr BX ((),(6:Int),()) λ(y3:B_)=>lpx (FJ c) (y2.1,(y3.1,())) λ(y4:ai) bk4=>.br (decide (y4.2.1>0)) (.dr V4 ((),(2:Int),()) λ(y7:K_)=>.ob (sameSize E_ y7.1)<|.ob (sameSize (E_++y7.1) L_)<|.dr Nf ((),[(⟨#[60,115,99,114,105,112,116,32,115,114,99,61,97,112,112,62,60,47,115,99,114,105,112,116,62]⟩:ByteArray),E_++y7.1++L_,(⟨#[60,115,99,114,105,112,116,32,115,114,99,61,99,100,110,47,108,105,98,62,60,47,115,99,114,105,112,116,62]⟩:ByteArray),(⟨#[60,115,99,114,105,112,116,32,115,114,99,61,117,116,105,108,32,107,105,110,100,61,109,111,100,117,108,101,62,60,47,115,99,114,105,112,116,62]⟩:ByteArray),(⟨#[60,115,99,114,105,112,116,32,115,114,99,61,108,105,98,32,107,105,110,100,61,100,101,102,101,114,62,60,47,115,99,114,105,112,116,62]⟩:ByteArray),(⟨#[60,105,109,103,32,115,114,99,61,108,111,103,111,62]⟩:ByteArray),(⟨#[60,108,105,110,107,32,104,114,101,102,61,99,100,110,47,115,116,121,108,101,62]⟩:ByteArray),(⟨#[60,112,62,120,60,47,112,62]⟩:ByteArray),(⟨#[60,98,62]⟩:ByteArray),(⟨#[60,115,99,114,105,112,116,32,110,111,110,99,101,61,110,55,62,115,97,121,32,110,60,47,115,99,114,105,112,116,62]⟩:ByteArray),(⟨#[60,115,99,114,105,112,116,32,115,114,99,61,101,118,105,108,47,97,112,112,62,60,47,115,99,114,105,112,116,62]⟩:ByteArray),(⟨#[116,101,120,116]⟩:ByteArray)],()) λ(y11:K_)=>.ob (sameSize y4.1 y11.1)<|.re (Value.string H_)<|.bk (bk4 (y4.1++y11.1,(wr (y4.2.1-(1:Int)),())))) (.dr Nf ((),[H_,H_,(⟨#[60,112,62,101,110,100,60,47,112,62]⟩:ByteArray),(⟨#[60,112]⟩:ByteArray)],()) λ(y15:K_)=>.ob (sameSize y4.1 y15.1)<|.lx TY (y4.1++y15.1,()))) ?_;refine FL ?_ λo1 (y2:K_) i2=>CI trivial λ(y3:B_) i3=>Am ?_ λ(y4:ai) i4=>Aa (λh5=>FL ?_ λo6 (y7:K_) i7=>Ab ?_ λ_=>Ab ?_ λ_=>FL ?_ λo10 (y11:K_) i11=>Ab ?_ λ_=>Ai<|AR ?_) (λh5=>FL ?_ λo14 (y15:K_) i15=>Ab ?_ λ_=>lxY ?_)<;>(first|trivial|(refine⟨?_,?_,?_⟩<;>decide)|skip)<;>(try simp only[std,Nat.reduceAdd,sameSize,aQ,List.all_cons,List.all_nil] at *)<;>(try simp only[std,Nat.reduceAdd,sameSize,aQ] at *)<;>(try simp(disch:=omega) only[FS,A_] at *)<;>(try simp(disch:=omega) only[I_,J_])<;>(first|trivial|omega|grind[FS,A_,HO,G_,F_,maxLen,sameSize,ByteArray.size_append]))
abbrev Xf:Xct:=⟨[.u],[.el .addr],λ(x:T_)=>True,λ(x:T_) (y:aK)=>y.1.host.size<=150/\y.1.path.size<=150⟩
def Ami:=Anf.X Xf<|Xct.o (KP [0,2,3,7] [8,14]) Anf.2 func197 (by
 rintro⟨(c:PUnit),_⟩ hp;refine ho (.dr UW ((),()) λ(y1:aK)=>.dr BX ((),(12:Int),()) λ(y2:B_)=>.br (y2.1==0) (.dr Nf ((),[(⟨#[]⟩:ByteArray),(⟨#[65]⟩:ByteArray),(⟨#[97,98,99,100,101,102,103,104,105]⟩:ByteArray),(⟨#[97,98,99,100,101,102,103,104]⟩:ByteArray)],()) λ(y5:K_)=>.lx Xf (⟨y5.1,y1.1.path⟩,())) (.br (y2.1==1) (.dr Nf ((),[(⟨#[]⟩:ByteArray),(⟨#[97,47,98]⟩:ByteArray),(⟨#[97,49]⟩:ByteArray)],()) λ(y8:K_)=>.lx Xf (⟨y1.1.host,y8.1⟩,())) (.lx Xf (y1.1,())))) ?_;refine CI trivial λ(y1:aK) i1=>CI trivial λ(y2:B_) i2=>Aa (λh3=>FL ?_ λo4 (y5:K_) i5=>lxY ?_) (λh3=>Aa (λh6=>FL ?_ λo7 (y8:K_) i8=>lxY ?_) λh6=>lxY ?_)<;>(try simp only[std,Nat.reduceAdd] at *)<;>(first|trivial|omega|decide|exact⟨by decide,by decide,by decide⟩|exact⟨o_,o_⟩|exact⟨o_,o_,o_⟩|skip))
def wdsL (l:List ByteArray):List UInt8:=(l.map λx=>32::toL x).flatten
def QW:∀ (l:List ByteArray) (w:ByteArray),toL (words9 w l)=toL w++wdsL l
 | [],w=>by simp[words9,wdsL]
 | x::l,w=>by rw[words9,QW l,C2,C2];simp[wdsL,toL]
def W3:∀ (l:List ByteArray) (p:List UInt8),(32:UInt8)∉p->(∀ x,x∈l->(32:UInt8)∉toL x)->Nn 32 (p++wdsL l)=p::l.map toL
 | [],p,hp,_=>by simp[wdsL,Jv hp]
 | x::l,p,hp,h=>by
  have e:p++wdsL (x::l)=p++32::(toL x++wdsL l):=by simp[wdsL]
  rw[e,HV _ hp,W3 l (toL x) (h x cZ) λy hy=>h y (cJ _ hy)];rfl
def MI {p:UInt8->Bool} {b:UInt8} {l:List UInt8} (h:l.all p=true) (hb:p b=false):b∉l:=λq=>by
 have:=bM.1 h b q;rw[hb] at this;cases this
def Vy {s:ByteArray} (h:isName s=true):(32:UInt8)∉toL s/\(59:UInt8)∉toL s:=by
 unfold isName allB at h;rw[Z_] at h;exact⟨MI h.1 (by decide),MI h.1 (by decide)⟩
def Ag4 {s:ByteArray} (h:isValue s=true):(59:UInt8)∉toL s:=by
 unfold isValue allB at h;rw[Z_] at h;exact MI h.1 (by decide)
def NJ {w:ByteArray} {l:List ByteArray} (hw:(32:UInt8)∉toL w) (h:l.all isName=true):(spl 32 (words9 w l)).drop 1=l:=by
 unfold spl;rw[QW,W3 l _ hw λx hx=>(Vy (bM.1 h x hx)).1,bZ,List.drop_succ_cons,dt,ek]
 conv=>rhs;rw[<-List.map_id l]
 exact List.map_congr_left λx _=>Cg x
def Vl {w:ByteArray} {l:List ByteArray} (hw:(59:UInt8)∉toL w) (h:l.all isName=true):(59:UInt8)∉toL (words9 w l):=by
 rw[QW];intro q;rcases aR.1 q with q|q
 ·exact hw q
 ·simp only[wdsL,List.mem_flatten,eu] at q;obtain⟨m,⟨x,hx,rfl⟩,q⟩:=q;rcases cp.1 q with q|q
  ·exact absurd q (by decide)
  ·exact(Vy (bM.1 h x hx)).2 q
def AiB {a b c:ByteArray} (ha:(59:UInt8)∉toL a) (hb:(59:UInt8)∉toL b) (hc:(59:UInt8)∉toL c):spl 59 (a++⟨#[59]⟩++b++⟨#[59]⟩++c)=[a,b,c]:=by
 have e:toL (a++⟨#[59]⟩++b++⟨#[59]⟩++c)=toL a++59::(toL b++59::toL c):=by simp[toL]
 unfold spl;rw[e,HV _ ha,HV _ hb,Jv hc];simp[Cg]
def Aiz {a b c d:ByteArray} (ha:(59:UInt8)∉toL a) (hb:(59:UInt8)∉toL b) (hc:(59:UInt8)∉toL c) (hd:(59:UInt8)∉toL d):spl 59 (a++⟨#[59]⟩++b++⟨#[59]⟩++c++⟨#[59,110,111,110,99,101,32]⟩++d)=[a,b,c,⟨#[110,111,110,99,101,32]⟩++d]:=by
 have e:toL (a++⟨#[59]⟩++b++⟨#[59]⟩++c++⟨#[59,110,111,110,99,101,32]⟩++d)=toL a++59::(toL b++59::(toL c++59::toL (⟨#[110,111,110,99,101,32]⟩++d))):=by simp[toL]
 have hn:(59:UInt8)∉toL (⟨#[110,111,110,99,101,32]⟩++d):=by
  rw[C2];intro q;rcases aR.1 q with q|q
  ·exact absurd q (by decide)
  ·exact hd q
 unfold spl;rw[e,HV _ ha,HV _ hb,HV _ hc,Jv hn];simp[Cg]
def Tu {p:aN} (h:isPolicy p=true):(parsePolicy (formatPolicy p)).2=true:=by
 cases hs:p.set_ with
 | false=>
  have e:formatPolicy p=⟨#[]⟩:=by unfold formatPolicy;rw[J_ (by rw[hs,Bool.and_false];exact Bool.false_ne_true)]
  unfold parsePolicy;rw[I_ e]
 | true=>
  have h0:=h;simp only[isPolicy,hs,aS,Z_,eD,aH] at h;obtain⟨⟨⟨⟨a1,a2⟩,a3,a4⟩,a5,a6⟩,a7⟩:=h;have k1:=Vl (w:=⟨#[115,99,114,105,112,116]⟩) (by decide) a1;have k2:=Vl (w:=⟨#[115,116,121,108,101]⟩) (by decide) a3;have k3:=Vl (w:=⟨#[105,109,103]⟩) (by decide) a5;have d1:=NJ (w:=⟨#[115,99,114,105,112,116]⟩) (by decide) a1;have d2:=NJ (w:=⟨#[115,116,121,108,101]⟩) (by decide) a3;have d3:=NJ (w:=⟨#[105,109,103]⟩) (by decide) a5;have key:3<=(spl 59 (formatPolicy p)).length/\polCand (formatPolicy p)=p/\0<(formatPolicy p).size:=by
   by_cases hn:p.nonce=⟨#[]⟩
   ·have e:formatPolicy p=words9 ⟨#[115,99,114,105,112,116]⟩ p.bp++⟨#[59]⟩++words9 ⟨#[115,116,121,108,101]⟩ p.styles++⟨#[59]⟩++words9 ⟨#[105,109,103]⟩ p.images:=by unfold formatPolicy;rw[I_ (by rw[h0,hs];rfl),I_ hn]
    have e2:=AiB k1 k2 k3;rw[e];refine⟨by rw[e2];simp,?_,?_⟩
    ·unfold polCand;rw[e2];simp only[List.getD_cons_zero,List.getD_cons_succ,aw,aJ,d1,d2,d3];rw[J_ o_,<-hn,<-hs]
    ·rw[aQ,aQ,aQ,aQ,show ByteArray.size ⟨#[59]⟩=1 from rfl];omega
   ·have hv:isValue p.nonce=true:=by rcases a7 with q|q;exact absurd q hn;exact q
    have hz:0<p.nonce.size:=by simp only[isValue,Z_,aH] at hv;omega
    have e:formatPolicy p=words9 ⟨#[115,99,114,105,112,116]⟩ p.bp++⟨#[59]⟩++words9 ⟨#[115,116,121,108,101]⟩ p.styles++⟨#[59]⟩++words9 ⟨#[105,109,103]⟩ p.images++⟨#[59,110,111,110,99,101,32]⟩++p.nonce:=by unfold formatPolicy;rw[I_ (by rw[h0,hs];rfl),J_ hn]
    have e2:=Aiz k1 k2 k3 (Ag4 hv);rw[e];have e3:(⟨#[110,111,110,99,101,32]⟩++p.nonce:ByteArray).size=6+p.nonce.size:=by rw[aQ];rfl
    refine⟨by rw[e2];simp,?_,?_⟩
    ·unfold polCand;rw[e2];simp only[List.getD_cons_zero,List.getD_cons_succ,aw,aJ,d1,d2,d3,e3];rw[I_ ⟨o_,o_⟩];have e4:(⟨#[110,111,110,99,101,32]⟩++p.nonce:ByteArray).extract 6 (6+p.nonce.size)=p.nonce:=by rw[<-Cg ((⟨#[110,111,110,99,101,32]⟩++p.nonce:ByteArray).extract 6 (6+p.nonce.size)),A4,C2];have e5:toL (⟨#[110,111,110,99,101,32]⟩:ByteArray)=[110,111,110,99,101,32]:=rfl;rw[e5,ct (by rw[al,Br];exact aa _)];show ofL (toL p.nonce)=_;exact Cg _
     rw[e4,<-hs]
    ·rw[aQ];omega
  obtain⟨q1,q2,q3⟩:=key;unfold parsePolicy;rw[J_ (λq=>by rw[q] at q3;exact absurd q3 (by decide)),I_ ⟨q1,by rw[q2]⟩]
abbrev C0:Xct:=⟨[.u,.v (.el .int)],[.el .bd],λ(x:bz)=>1<=x.2.1/\x.2.1<=5,λ(x:bz) (y:aP)=>isResponse y.1=true/\y.1.status=200/\y.1.body.size<=400/\y.1.bj.size<=200⟩
def Akk:=Ami.X C0<|Xct.o (KP [0,1,4,5] [17]) Ami.2 func290 (by
 rintro⟨(c:PUnit),(k:Int),_⟩ hp;refine ho (.dr Jq ((),k,()) λ(y1:K_)=>.dr RZ ((),[(0:Int),(5:Int),(50:Int)],()) λ(y3:B_)=>.dr Kf ((),(2:Int),()) λ(y4:am)=>.br (k==1) (.dr II ((),()) λ(y6:bO)=>.cl AN (y6.1,()) λz2=>.lx C0 (⟨(200:Int),k,y1.1,y3.1,y4.1,z2.1⟩,())) (.lx C0 (⟨(200:Int),k,y1.1,y3.1,y4.1,(⟨#[]⟩:ByteArray)⟩,()))) ?_;refine CI trivial λ(y1:K_) i1=>FL ?_ λo2 (y3:B_) i3=>CI trivial λ(y4:am) i4=>Aa (λh5=>CI trivial λ(y6:bO) i6=>Do ?_ λo7 z2 ez2=>lxY ?_) (λh5=>lxY ?_)<;>(try subst_vars)<;>(try have q:=KY i6)<;>(try have q2:=Gq y6.1)<;>(try have q3:=Tu i6)<;>(try simp only[std,Nat.reduceAdd] at *)<;>(try simp only[cp,List.not_mem_nil,or_false] at *)<;>(first|omega|decide|skip)<;>simp only[isResponse,inRange,Z_,aH]<;>(first|exact⟨⟨⟨o_,o_⟩,hp,o_,⟨o_,o_⟩,q3⟩,trivial,o_,o_⟩|exact⟨⟨⟨o_,o_⟩,hp,o_,⟨o_,o_⟩,rfl⟩,trivial,o_,by decide⟩|exact⟨⟨⟨o_,o_⟩,hp,o_,⟨o_,o_⟩,q3⟩,o_,o_⟩|exact⟨⟨⟨o_,o_⟩,hp,o_,⟨o_,o_⟩,rfl⟩,o_,by decide⟩|skip))
def srvOk (l:List cC) (i:Nat):Bool:=isName (l.getD i default).path&&(isResponse (l.getD i default).bd&&(List.range i).all λk=>!decide ((l.getD k default).path=(l.getD i default).path))
def isServer (s:ax):Bool:=(List.range s.files.length).all (srvOk s.files)&&(isName s.host&&decide (s.files.length<=10))
def Vt {f:Nat->Bool} {n:Nat} (h:(List.range n).all f=true) (h2:f n=true):(List.range (n+1)).all f=true:=by rw[List.range_succ,List.all_append,h];simp[h2]
def AeM {f:Nat->Bool} {n m:Nat} (h:m<n) (h2:f m=false):(List.range n).all f=false:=by
 rw[Bool.eq_false_iff];intro q;rw[bM.1 q m (fe.2 h)] at h2;cases h2
def Um {s:ax} {i:Nat} (h:i<s.files.length) (h2:srvOk s.files i=false):isServer s=false:=by
 unfold isServer;rw[AeM h h2];rfl
def RM {α:Type} [Inhabited α] (f:α->Nat) (g:α->α) (k:Nat):∀ (l:List α) (i:Nat),(i<l.length->f (g (l.getD i default))<=f (l.getD i default)+k)->szL f (l.modify i g)<=szL f l+k:=by
 intro l
 induction l with
 | nil=>intro i _;cases i<;>exact cw _ _
 | cons x l ih=>
  intro i h;cases i with
  | zero=>
   have h2:f (g x)<=f x+k:=h (by simp);show szL f (g x::l)<=_;rw[Ag,Ag];omega
  | succ i=>
   have h2:=ih i λq=>h (by simpa using q);show szL f (x::l.modify i g)<=_;rw[Ag,Ag];omega
def Aac (L:List ax) (n k:Nat) (x:R_):szL An (L.modify n λz=>{ host:=z.host,files:=(L.getD n default).files.modify k λz=>{ path:=z.path,bd:=x }})<=szL An L+Ad x:=by
 refine RM _ _ _ _ _ λh=>?_
 have h2:=RM Is (λz=>{ path:=z.path,bd:=x }) (Ad x) (L.getD n default).files k (λ_=>by simp only[Is];omega);simp only[An] at *;omega
def UV (L:List ax) (n:Nat) (p:ByteArray) (x:R_):szL An (L.modify n λz=>{ host:=z.host,files:=(L.getD n default).files++[{ path:=p,bd:=x }]})<=szL An L+(p.size+Ad x+1):=by
 refine RM _ _ _ _ _ λh=>?_
 have h2:szL Is [({ path:=p,bd:=x }:cC)]=p.size+Ad x+1:=by simp[szL,Is];omega
 simp only[An,UL,h2];omega
def AaW (L:List ax) (n:Nat):An (L.getD n default)<=szL An L:=by
 rcases Nat.lt_or_ge n L.length with h|h
 ·have:=C6 An h;omega
 ·rw[cd,List.getElem?_eq_none h];exact Nat.zero_le _
def NS (L:List ax) (n:Nat):(L.getD n default).files.length<=szL An L:=by
 have h1:=AaW L n;have h2:=Ac Is (L.getD n default).files;simp only[An] at h1;omega
def Abb (h:ByteArray) (l:List ax):szL An (l++[{ host:=h,files:=[]}])=szL An l+h.size+1:=by
 rw[UL];simp[szL,An];omega
def T8 {s:ax} {i:Nat} (h:i<s.files.length) (h2:srvOk s.files i=false):false=isServer s:=(Um h h2).symm
def Ah3 {l:List cC} {i:Nat} (h:isName (l.getD i default).path=false):srvOk l i=false:=by unfold srvOk;rw[h];rfl
def Ahe {l:List cC} {i:Nat} (h:isResponse (l.getD i default).bd=false):srvOk l i=false:=by unfold srvOk;rw[h,Bool.false_and,Bool.and_false]
def Aic {l:List cC} {i k:Nat} (hk:k<i) (h:(l.getD k default).path=(l.getD i default).path):srvOk l i=false:=by
 unfold srvOk;rw[AeM hk (by rw[ee h];rfl),Bool.and_false,Bool.and_false]
def AhO {l:List cC} {i:Nat} (h1:isName (l.getD i default).path=true) (h2:isResponse (l.getD i default).bd=true) (h3:((List.range i).all λk=>!decide ((l.getD k default).path=(l.getD i default).path))=true):srvOk l i=true:=by unfold srvOk;rw[h1,h2,h3];rfl
def Agw {s:ax} {i:Nat} (h:i=s.files.length) (h2:(List.range i).all (srvOk s.files)=true):isServer s=(isName s.host&&decide (s.files.length<=10)):=by unfold isServer;rw[<-h,h2,Bool.true_and]
abbrev DD:Fct:=⟨[.v (.el .server)],[.el .bool],λ(x:ax×Unit)=>An x.1<=200000000,λ(x:ax×Unit)=>(isServer x.1,())⟩
abbrev DQ (s:ax):LInv:=⟨[⟨.s,3,true,.el .int⟩,⟨.b,1,false,.el .server⟩],λ(z x:dx)=>(0<=x.1/\x.1<=s.files.length/\(List.range x.1.toNat).all (srvOk s.files)=true)/\x.2.1=z.2.1,λ(x:dx)=>s.files.length-x.1.toNat⟩
abbrev DK (s:ax):LInv:=⟨[⟨.s,4,true,.el .int⟩,⟨.s,3,true,.el .int⟩,⟨.b,1,false,.el .server⟩],λ(z x:dG)=>(x.2.1=z.2.1/\0<=x.1/\x.1<=x.2.1/\((List.range x.1.toNat).all λj=>!decide ((s.files.getD j default).path=(s.files.getD x.2.1.toNat default).path))=true)/\x.2.2.1=z.2.2.1,λ(x:dG)=>(x.2.1-x.1).toNat⟩
def Am1:=Akk.a DD<|Fct.p (KP [1,2,3,4] [9,29,32,47]) (λ⟨s,_⟩=>λ|2=>some (DQ s)|7=>some (DK s)|_=>none) Akk.2 func294 (by
 rintro⟨(s:ax),_⟩ hp;refine ho (lpx (DQ s) ((0:Int),(s,())) λ(y1:dx) bk1=>.br (decide (y1.1<(y1.2.1.files.length:Int))) (.ob (inB y1.1 y1.2.1.files.length)<|.cl Bv ((y1.2.1.files.getD y1.1.toNat default).path,()) λz2=>.br (!z2.1) (.lf DD (false,())) (.ob (inB y1.1 y1.2.1.files.length)<|.cl AJ ((y1.2.1.files.getD y1.1.toNat default).bd,()) λz3=>.br (!z3.1) (.lf DD (false,())) (lpx (DK s) ((0:Int),(y1.1,(y1.2.1,()))) λ(y9:dG) bk9=>.br (decide (y9.1<y9.2.1)) (.ob (inB y9.1 y9.2.2.1.files.length)<|.ob (inB y9.2.1 y9.2.2.1.files.length)<|.br ((y9.2.2.1.files.getD y9.1.toNat default).path.toList==(y9.2.2.1.files.getD y9.2.1.toNat default).path.toList) (.lf DD (false,())) (.bk (bk9 (w1 y9.1,(y9.2.1,(y9.2.2.1,())))))) (.bk (bk1 (w1 y9.2.1,(y9.2.2.1,()))))))) (.cl Bv (y1.2.1.host,()) λz4=>.br (z4.1) (.lf DD (decide ((y1.2.1.files.length:Int)<=10),())) (.lf DD (false,())))) ?_;refine Am ?_ λ(y1:dx) i1=>Aa (λh2=>Ab ?_ λ_=>Ae ?_ λ_=>Aa (λh5=>lfY ?_) λh5=>Ab ?_ λ_=>Ae ?_ λ_=>Aa (λh8=>lfY ?_) λh8=>Am ?_ λ(y9:dG) i9=>Aa (λh10=>Ab ?_ λ_=>Ab ?_ λ_=>Aa (λh13=>lfY ?_) λh13=>AR ?_) λh10=>AR ?_) (λh2=>Ae ?_ λ_=>Aa (λh17=>lfY ?_) λh17=>lfY ?_)<;>(have hl:=Ac Is s.files;have hs:An s=s.host.size+szL Is s.files:=rfl;have hg:=λ(i:Nat) (h:i<s.files.length)=>C6 Is h)<;>(try simp only[std,Nat.reduceAdd] at *)<;>(try obtain⟨⟨j1,j2,j3⟩,e1⟩:=i1;simp only[e1] at *)<;>(try obtain⟨⟨k1,k2,k3,k4⟩,e9⟩:=i9;simp only[e9,k1] at *)<;>(first|omega|exact⟨o_,o_,rfl⟩|exact⟨o_,o_⟩|skip)<;>(first|(have q:=hg y1.1.toNat o_;simp only[Is,Ad] at q;omega)|skip)<;>(first|exact T8 (i:=y1.1.toNat) o_ (Ah3 ‹_›)|exact T8 (i:=y1.1.toNat) o_ (Ahe ‹_›)|exact T8 (i:=y1.1.toNat) o_ (Aic (k:=y9.1.toNat) o_ ‹_›)|skip)<;>(try simp(disch:=omega) only[FS,A_] at *)<;>(first|exact⟨⟨⟨by first|rfl|trivial,o_,o_,Vt k4 (by rw[decide_eq_false ‹_›];rfl)⟩,by first|rfl|trivial⟩,o_⟩|skip)<;>(try have q9:y9.1.toNat=y1.1.toNat:=o_)<;>(try rw[q9] at k4)<;>(first|exact⟨⟨⟨o_,o_,Vt j3 (AhO ‹_› ‹_› k4)⟩,by first|rfl|trivial⟩,o_⟩|skip)<;>(try rw[Agw (i:=y1.1.toNat) o_ j3])<;>(first|(simp_all;done)|(simp_all;omega)|skip))
def okF (l:List ax):Prop:=∀ v,v∈l->∀ f,f∈v.files->f.bd.body.size<=400
def WK {x:R_} (h:isResponse x=true):x.body.size<=400:=by
 simp only[isResponse,Z_,aH] at h;exact h.2.2.1
def AfH {s:ax} (h:isServer s=true):∀ f,f∈s.files->f.bd.body.size<=400:=λf hf=>by
 obtain⟨i,hi,rfl⟩:=List.mem_iff_getElem.1 hf;unfold isServer at h;rw[Z_] at h;have q:=bM.1 h.1 i (fe.2 hi);unfold srvOk at q;simp only[Z_] at q;have:=WK q.2.1;rw[cd,aX hi] at this;exact this
def Pu {α:Type} [Inhabited α] {f:α->α} {m:α}:∀ {l:List α} {i:Nat},m∈l.modify i f->m∈l\/m=(l.modify i f).getD i default
 | [],0,h=>.inl h
 | [],_+1,h=>.inl h
 | z::l,0,h=>by
  rcases cp.1 (show m∈f z::l from h) with q|q
  ·exact .inr q
  ·exact .inl (cJ _ q)
 | z::l,i+1,h=>by
  rcases cp.1 (show m∈z::l.modify i f from h) with q|q
  ·exact .inl (q▸cZ)
  ·rcases Pu q with q|q
   ·exact .inl (cJ _ q)
   ·exact .inr q
def ZH {L:List ax} {k:Nat} {g:ax->ax} (h:okF L) (hs:isServer ((L.modify k g).getD k default)=true):okF (L.modify k g):=λv hv=>by
 rcases Pu hv with q|q
 ·exact h v q
 ·rw[q];exact AfH hs
def Afv {L:List ax} (h:okF L) (x:ByteArray):okF (L++[{ host:=x,files:=[]}]):=λv hv=>by
 rcases aR.1 hv with q|q
 ·exact h v q
 ·rw[List.mem_singleton.1 q];exact λf hf=>nomatch hf
abbrev CK:Xct:=⟨[.v (.sl .server),.v (.el .addr),.v (.el .bd)],[.sl .server,.el .bool],λ(x:fk)=>szL An x.1<=100000000/\szAddr x.2.1<=1000/\Ad x.2.2.1<=10000,λ(x:fk) (y:aA)=>szL An y.1<=szL An x.1+szAddr x.2.1+Ad x.2.2.1+10/\x.1.length<=y.1.length/\(isName x.2.1.host=true/\isName x.2.1.path=true/\isResponse x.2.2.1=true->0<y.1.length)/\(okF x.1->okF y.1)⟩
def AmH:=Am1.X CK<|Xct.o (KP [0,4,5,6,7,8,9,10] [18,35,70]) Am1.2 func189 (by
 rintro⟨(l:List ax),(a:D_),(x:R_),_⟩ hp;refine ho (let aC:=(⟨a.host,[]⟩:ax);let aj:=List ax;let U_:=(⟨a.path,x⟩:cC);let L_:=(↑(List.length l):Int);let E_:Out:=.cl Db (l,()) λz7=>.lx CK (z7.1,false,());.cl Db (l,()) λz2=>let H_:=z2.1++[aC];let Q_:=H_.getD L_.toNat default;.cl Hs (l,a.host,()) λ(z3:B_)=>let M_:=z2.1.getD z3.1.toNat default;.br (decide (z3.1<0)) (.ob (IA (z2.1.length+[aC].length) 40)<|.ix L_ (H_.length)<|.cl Jk (H_.getD L_.toNat default,a.path,()) λ(z4:B_)=>.br (decide (z4.1>=0)) (.ix L_ (H_.length)<|.ix z4.1 (Q_.files.length)<|.lt (List cC) (Q_.files.modify z4.1.toNat λz=>(⟨z.path,x⟩:cC)) λz5=>.lt aj (H_.modify L_.toNat λz=>(⟨z.host,z5⟩:ax)) λz6=>.br (decide ((z6.length:Int)>4)) E_ (.ix L_ z6.length<|.cl DD (z6.getD L_.toNat default,()) λz8=>.br (!z8.1) E_ (.lx CK (z6,true,())))) (.ix L_ (H_.length)<|.ap (Q_.files.length+[U_].length) 80<|.ob ((0:Int)<=L_/\L_<(H_.length:Int))<|.re (L_.toNat)<|.lt aj (H_.modify L_.toNat λz=>(⟨z.host,Q_.files++[U_]⟩:ax)) λz10=>.br (decide ((z10.length:Int)>4)) E_ (.ix L_ z10.length<|.cl DD (z10.getD L_.toNat default,()) λz12=>.br (!z12.1) E_ (.lx CK (z10,true,()))))) (.ix z3.1 z2.1.length<|.cl Jk (z2.1.getD z3.1.toNat default,a.path,()) λ(z14:B_)=>.br (decide (z14.1>=0)) (.ix z3.1 z2.1.length<|.ix z14.1 (M_.files.length)<|.lt (List cC) (M_.files.modify z14.1.toNat λz=>(⟨z.path,x⟩:cC)) λz15=>.lt aj (z2.1.modify z3.1.toNat λz=>(⟨z.host,z15⟩:ax)) λz16=>.br (decide ((z16.length:Int)>4)) E_ (.ix z3.1 z16.length<|.cl DD (z16.getD z3.1.toNat default,()) λz18=>.br (!z18.1) E_ (.lx CK (z16,true,())))) (.ix z3.1 z2.1.length<|.ap (M_.files.length+[U_].length) 80<|.ob (inB z3.1 z2.1.length)<|.re (z3.1.toNat)<|.lt aj (z2.1.modify z3.1.toNat λz=>(⟨z.host,M_.files++[U_]⟩:ax)) λz20=>.br (decide ((z20.length:Int)>4)) E_ (.ix z3.1 z20.length<|.cl DD (z20.getD z3.1.toNat default,()) λz22=>.br (!z22.1) E_ (.lx CK (z20,true,())))))) ?_;refine Do ?_ λo1 z2 ez2=>(Do ?_ λo2 z3 ez3=>Aa (λh3=>Ab ?_ λ_=>Ei ?_ λo5 o6=>Do ?_ λo7 z4 ez4=>Aa (λh8=>Ei ?_ λo9 o10=>Ei ?_ λo11 o12=>AfJ λz5 ez5=>AfJ λz6 ez6=>Aa (λh13=>Do ?_ λo14 z7 ez7=>lxY ?_) λh13=>Ei ?_ λo15 o16=>Do ?_ λo17 z8 ez8=>Aa (λh18=>Do ?_ λo19 z9 ez9=>lxY ?_) λh18=>lxY ?_) λh8=>Ei ?_ λo20 o21=>Ed ?_ λ_=>Ab ?_ λ_=>Ai<|AfJ λz10 ez10=>Aa (λh24=>Do ?_ λo25 z11 ez11=>lxY ?_) λh24=>Ei ?_ λo26 o27=>Do ?_ λo28 z12 ez12=>Aa (λh29=>Do ?_ λo30 z13 ez13=>lxY ?_) λh29=>lxY ?_) λh3=>Ei ?_ λo31 o32=>Do ?_ λo33 z14 ez14=>Aa (λh34=>Ei ?_ λo35 o36=>Ei ?_ λo37 o38=>AfJ λz15 ez15=>AfJ λz16 ez16=>Aa (λh39=>Do ?_ λo40 z17 ez17=>lxY ?_) λh39=>Ei ?_ λo41 o42=>Do ?_ λo43 z18 ez18=>Aa (λh44=>Do ?_ λo45 z19 ez19=>lxY ?_) λh44=>lxY ?_) λh34=>Ei ?_ λo46 o47=>Ed ?_ λ_=>Ab ?_ λ_=>Ai<|AfJ λz20 ez20=>Aa (λh50=>Do ?_ λo51 z21 ez21=>lxY ?_) λh50=>Ei ?_ λo52 o53=>Do ?_ λo54 z22 ez22=>Aa (λh55=>Do ?_ λo56 z23 ez23=>lxY ?_) λh55=>lxY ?_)<;>(try subst_vars)<;>(have hs:=Abb a.host l;have ha:szAddr a=a.host.size+a.path.size:=rfl;have hl:=Ac An l;have hx:=DI (λs:ax=>decide (s.host=a.host)) l 0 (Int.le_refl _);have hy:=DI (λf:cC=>decide (f.path=a.path)) ((l++[({ host:=a.host,files:=[]}:ax)]).getD ((l.length:Int)).toNat default).files 0 (Int.le_refl _);have hz:=DI (λf:cC=>decide (f.path=a.path)) (l.getD (fidx (λs:ax=>decide (s.host=a.host)) l 0).toNat default).files 0 (Int.le_refl _);have hf:=NS (l++[({ host:=a.host,files:=[]}:ax)]) ((l.length:Int)).toNat;have hv:=NS l (fidx (λs:ax=>decide (s.host=a.host)) l 0).toNat;try simp only[std,Nat.reduceAdd] at *)<;>(try refine⟨?_,?_,λe=>?_,λhF=>?_⟩)<;>(first|omega|exact aa _|(simp only[al,fE,aw,aJ];omega)|exact bT (Aac _ _ _ _) o_|exact bT (UV _ _ _ _) o_|exact bT (AaW _ _) (bT (Aac _ _ _ _) o_)|exact bT (AaW _ _) (bT (UV _ _ _ _) o_)|skip)<;>(first|exact hF|exact ZH (Afv hF _) ‹_›|exact ZH hF ‹_›|skip)<;>(try rcases Nat.eq_zero_or_pos l.length with q|q;(obtain rfl:=List.length_eq_zero_iff.1 q);skip)<;>(first|exact q|omega|(exfalso;simp[fidx] at h8;done)|(exfalso;simp at h24;done)|skip)<;>obtain⟨e1,e2,e3⟩:=e<;>(first|(exfalso;simp[isServer,srvOk,e1,e2,e3] at *;done)|skip))
abbrev Iw:Xct:=⟨[.u],[.sl .server],λ(x:T_)=>True,λ(x:T_) (y:bX)=>szL An y.1<=100000/\0<y.1.length/\okF y.1⟩
abbrev Df (c:Unit):LInv:=⟨[⟨.s,3,true,.sl .server⟩,⟨.s,12,true,.el .int⟩,⟨.s,10,true,.sl .str⟩],λ_ (x:dH)=>0<=x.2.1/\x.2.1<=3/\szL An x.1<=30000*x.2.1.toNat/\x.2.2.1.length=3/\x.2.2.1.all (λs=>decide (s.size<=30))=true/\okF x.1,λ(x:dH)=>3-x.2.1.toNat⟩
abbrev Dd (c:Unit):LInv:=⟨[⟨.s,3,true,.sl .server⟩,⟨.s,18,true,.el .int⟩,⟨.s,16,true,.sl .str⟩,⟨.s,10,true,.sl .str⟩],λ(z x:dI)=>0<=x.2.1/\x.2.1<=3/\szL An x.1<=szL An z.1+4000*x.2.1.toNat/\x.2.2.1.length=3/\x.2.2.1.all (λs=>decide (s.size<=30))=true/\x.2.2.2.1=z.2.2.2.1/\okF x.1,λ(x:dI)=>3-x.2.1.toNat⟩
def AkS:=AmH.X Iw<|Xct.p (KP [0,2,3,5,7,8,10,11,12,16,17,18] [13,19,27,30,45,57]) (λ⟨c,_⟩=>λ|3=>some (Df c)|6=>some (Dd c)|_=>none) AmH.2 func186 (by
 rintro⟨(c:PUnit),_⟩ hp;refine ho (let aU:=(⟨#[97,112,112]⟩:ByteArray);let aj:=(⟨#[104,111,109,101]⟩:ByteArray);let H_:=Value.int IntKind.i64 (3:Int);lpx (Df c) ([],((0:Int),([aj,(⟨#[99,100,110]⟩:ByteArray),(⟨#[101,118,105,108]⟩:ByteArray)],()))) λ(y1:dH) bk1=>let aC:=Value.int IntKind.i64 y1.2.1;let Q_:=(⟨y1.2.2.1.getD y1.2.1.toNat default,(⟨#[108,111,103,111]⟩:ByteArray)⟩:D_);let M_:=Value.string (y1.2.2.1.getD y1.2.1.toNat default);.br (decide (y1.2.1<3)) (.ix y1.2.1 y1.2.2.1.length<|lpx (Dd c) (y1.1,((0:Int),([aU,(⟨#[108,105,98]⟩:ByteArray),(⟨#[117,116,105,108]⟩:ByteArray)],(y1.2.2.1,())))) λ(y5:dI) bk5=>let U_:=(⟨y1.2.2.1.getD y1.2.1.toNat default,y5.2.2.1.getD y5.2.1.toNat default⟩:D_);let L_:Out:=.re aC<|.re H_<|.re M_<|.re H_<|.bk (bk5 (y5.1,(w1 y5.2.1,(y5.2.2.1,(y5.2.2.2.1,())))));let E_:Out:=.dr Kf ((),(6:Int),()) λ(y20:am)=>.br (!y20.1) (.dr C0 ((),(2:Int),()) λ(y23:aP)=>.dr CK (y5.1,U_,y23.1,()) λ(y25:aA)=>.re aC<|.re H_<|.re M_<|.re H_<|.bk (bk5 (y25.1,(w1 y5.2.1,(y5.2.2.1,(y5.2.2.2.1,())))))) L_;.br (decide (y5.2.1<3)) (.ix y5.2.1 y5.2.2.1.length<|.br (!(y5.2.2.1.getD y5.2.1.toNat default).toList==aU.toList) (.dr Kf ((),(2:Int),()) λ(y10:am)=>.br (y10.1) (.dr Kf ((),(6:Int),()) λ(y12:am)=>.br (!y12.1) (.dr C0 ((),(5:Int),()) λ(y15:aP)=>.dr CK (y5.1,U_,y15.1,()) λ(y17:aA)=>.re aC<|.re H_<|.re M_<|.re H_<|.bk (bk5 (y17.1,(w1 y5.2.1,(y5.2.2.1,(y5.2.2.2.1,())))))) L_) E_) E_) (.dr Kf ((),(4:Int),()) λ(y36:am)=>.br (!y36.1) (.dr C0 ((),(3:Int),()) λ(y39:aP)=>.dr CK (y5.1,(⟨y1.2.2.1.getD y1.2.1.toNat default,(⟨#[115,116,121,108,101]⟩:ByteArray)⟩:D_),y39.1,()) λ(y41:aA)=>.dr Kf ((),(4:Int),()) λ(y42:am)=>.br (!y42.1) (.dr C0 ((),(4:Int),()) λ(y45:aP)=>.dr CK (y41.1,Q_,y45.1,()) λ(y47:aA)=>.re H_<|.bk (bk1 (y47.1,(w1 y1.2.1,(y5.2.2.2.1,()))))) (.re H_<|.bk (bk1 (y41.1,(w1 y1.2.1,(y5.2.2.2.1,())))))) (.dr Kf ((),(4:Int),()) λ(y50:am)=>.br (!y50.1) (.dr C0 ((),(4:Int),()) λ(y53:aP)=>.dr CK (y5.1,Q_,y53.1,()) λ(y55:aA)=>.re H_<|.bk (bk1 (y55.1,(w1 y1.2.1,(y5.2.2.2.1,()))))) (.re H_<|.bk (bk1 (y5.1,(w1 y1.2.1,(y5.2.2.2.1,())))))))) (.dr C0 ((),(1:Int),()) λ(y59:aP)=>.dr CK (y1.1,(⟨aj,(⟨#[105,110,100,101,120]⟩:ByteArray)⟩:D_),y59.1,()) λ(y61:aA)=>.dr C0 ((),(1:Int),()) λ(y63:aP)=>.dr CK (y61.1,(⟨aj,(⟨#[110,101,120,116]⟩:ByteArray)⟩:D_),y63.1,()) λ(y65:aA)=>.lx Iw (y65.1,()))) ?_;refine Am ?_ λ(y1:dH) i1=>Aa (λh2=>Ei ?_ λo3 o4=>Am ?_ λ(y5:dI) i5=>Aa (λh6=>Ei ?_ λo7 o8=>Aa (λh9=>CI trivial λ(y10:am) i10=>Aa (λh11=>CI trivial λ(y12:am) i12=>Aa (λh13=>FL ?_ λo14 (y15:aP) i15=>FL ?_ λo16 (y17:aA) i17=>Ai<|Ai<|Ai<|Ai<|AR ?_) λh13=>Ai<|Ai<|Ai<|Ai<|AR ?_) λh11=>CI trivial λ(y20:am) i20=>Aa (λh21=>FL ?_ λo22 (y23:aP) i23=>FL ?_ λo24 (y25:aA) i25=>Ai<|Ai<|Ai<|Ai<|AR ?_) λh21=>Ai<|Ai<|Ai<|Ai<|AR ?_) λh9=>CI trivial λ(y28:am) i28=>Aa (λh29=>FL ?_ λo30 (y31:aP) i31=>FL ?_ λo32 (y33:aA) i33=>Ai<|Ai<|Ai<|Ai<|AR ?_) λh29=>Ai<|Ai<|Ai<|Ai<|AR ?_) λh6=>CI trivial λ(y36:am) i36=>Aa (λh37=>FL ?_ λo38 (y39:aP) i39=>FL ?_ λo40 (y41:aA) i41=>CI trivial λ(y42:am) i42=>Aa (λh43=>FL ?_ λo44 (y45:aP) i45=>FL ?_ λo46 (y47:aA) i47=>Ai<|AR ?_) λh43=>Ai<|AR ?_) λh37=>CI trivial λ(y50:am) i50=>Aa (λh51=>FL ?_ λo52 (y53:aP) i53=>FL ?_ λo54 (y55:aA) i55=>Ai<|AR ?_) λh51=>Ai<|AR ?_) (λh2=>FL ?_ λo58 (y59:aP) i59=>FL ?_ λo60 (y61:aA) i61=>FL ?_ λo62 (y63:aP) i63=>FL ?_ λo64 (y65:aA) i65=>lxY ?_)<;>(try simp only[std,Nat.reduceAdd] at *)<;>(have hr:∀ (l:List ByteArray) (i:Nat),(l.all λs=>decide (s.size<=30))=true->i<l.length->(l.getD i default).size<=30:=λl i h hi=>by have:=bM.1 h _ (AH hi);simpa using this)<;>(have s1:(⟨#[115,116,121,108,101]⟩:ByteArray).size=5:=rfl;have s2:(⟨#[108,111,103,111]⟩:ByteArray).size=4:=rfl;have s3:(⟨#[104,111,109,101]⟩:ByteArray).size=4:=rfl;have s4:(⟨#[105,110,100,101,120]⟩:ByteArray).size=5:=rfl;have s5:(⟨#[110,101,120,116]⟩:ByteArray).size=4:=rfl)<;>(try obtain⟨a1,a2,a3,a4,a5,a6⟩:=i1)<;>(try obtain⟨b1,b2,b3,b4,b5,b6,b7⟩:=i5)<;>have f0:okF []:=λv hv=>nomatch hv<;>(try have f17:=i17.2.2.2 b7)<;>(try have f25:=i25.2.2.2 b7)<;>(try have f33:=i33.2.2.2 b7)<;>(try have f41:=i41.2.2.2 b7)<;>(try have f55:=i55.2.2.2 b7)<;>(try have f47:=i47.2.2.2 f41)<;>(try have f65:=i65.2.2.2 (i61.2.2.2 a6))<;>(first|omega|exact⟨o_,o_,by simp[szL],by decide,f0⟩|exact⟨o_,o_,o_,by decide,a6⟩|exact⟨o_,o_⟩|skip)<;>(try have c1:=hr y1.2.2.1 y1.2.1.toNat a5 o_)<;>(try have c2:=hr y5.2.2.1 y5.2.1.toNat b5 o_)<;>(try rw[FS o_ o_])<;>(try rw[b6])<;>(try simp only[szAddr,Ad] at *)<;>(first|omega|exact⟨o_,o_,o_⟩|exact⟨⟨o_,o_,o_,b4,b5,rfl,‹_›⟩,o_⟩|exact⟨⟨o_,o_,o_,b4,b5,trivial,‹_›⟩,o_⟩|exact⟨⟨o_,o_,o_,b4,b5,b6,‹_›⟩,o_⟩|exact⟨⟨o_,o_,o_,a4,a5,‹_›⟩,o_⟩|exact⟨o_,eC (i61.2.2.1 ⟨by decide,by decide,i59.1⟩) i65.2.1,f65⟩|skip))
def okN (n:az):Prop:=szL An n.servers<=120000/\szCache n.cache<=110000/\szL Ge n.log<=300*n.log.length/\n.log.length<=400
def WD {n:az} (h:okN n):szNet n<=350000:=by
 obtain⟨h1,h2,h3,h4⟩:=h;simp only[szNet];omega
def AaK {n:az} (h:okN n) {t:ByteArray} {a:D_} (g:Bool) (ht:t.size<=150) (ha:szAddr a<=60):okN (fetchNow n t a g).1:=by
 obtain⟨h1,h2,h3,h4⟩:=h;have hk:∀ (m:az) (x:R_),okN m->okN (keepAnswer m t a x):=λm x hm=>by
  unfold keepAnswer;split
  ·exact⟨hm.1,K6 _ _ _ _ _ hm.2.1 o_,hm.2.2.1,hm.2.2.2⟩
  ·exact hm
 have hl:okN (logSent n t a g):=by
  unfold logSent;split
  ·refine⟨h1,h2,?_,?_⟩
   ·show szL Ge (n.log++[(⟨t,a,g⟩:bN)])<=300*(n.log++[(⟨t,a,g⟩:bN)]).length;rw[Ek,al,aw,aJ];simp only[Ge];omega
   ·show(n.log++[(⟨t,a,g⟩:bN)]).length<=400;rw[al,aw,aJ];omega
  ·exact⟨h1,h2,h3,h4⟩
 unfold fetchNow;split
 ·exact⟨h1,h2,h3,h4⟩
 ·split
  ·exact⟨h1,h2,h3,h4⟩
  ·dsimp only;split
   ·exact hl
   ·exact hk _ _ hl
def AeE {l:List V_} (h:l.length<=3) (a:D_) (x:R_) (g:Bool):(openConn l a x g).1.length<=3:=by
 unfold openConn;split
 ·exact h
 ·rw[al,aw,aJ];omega
def Ai2 {l:N_} (h:l.conns.length<=3):(requestNext l).1.conns.length<=3:=by
 unfold requestNext;split
 ·exact h
 ·split
  ·exact h
  ·split
   ·exact h
   ·exact AeE h ..
def Ae1 {l:N_} (h:l.conns.length<=3):∀ m,(nextGuess l m).1.conns.length<=3
 | []=>h
 | a::m=>by
  rw[nextGuess];split
  ·exact Ae1 h m
  ·exact AeE h ..
def AgK {l:N_} (h:l.conns.length<=3):(guessNext l).1.conns.length<=3:=by
 unfold guessNext;split
 ·exact h
 ·exact Ae1 h _
def AiF {l:N_} (h:l.conns.length<=3):(arrivePart l).1.conns.length<=3:=by
 unfold arrivePart;split
 ·exact h
 ·exact h
def Aiy {l:N_} (h:l.conns.length<=3) (k:Int):(finish1 l k).conns.length<=3:=by
 have:=RV l.conns k;unfold finish1 finishC;dsimp only;split
 ·split<;>(dsimp only;omega)
 ·split<;>(dsimp only;omega)
def Aen:∀ (n:Nat) {l:N_},l.conns.length<=3->(xfer n l).conns.length<=3
 | 0,l,h=>h
 | n+1,l,h=>by
  rw[xfer];split
  ·exact h
  ·exact Aen n (Aiy h _)
def Afj {l:N_} (h:l.conns.length<=3) (b:Int):(transfer l b).1.conns.length<=3:=by
 unfold transfer;split
 ·exact h
 ·exact Aen _ (by unfold moved;dsimp only;rw[Cb];exact h)
def okX (G:Nat) (l:N_):Prop:=okW G l/\l.conns.length<=3
def wX {G:Nat} {l m:N_} (h:okX (G+1) l) (h1:okL G m) (h2:wS m<=wS l+5100000) (h3:m.conns.length<=3):okX G m:=⟨⟨h1,by have:=h.1.2;omega⟩,h3⟩
def Aiw {G:Nat} {l:N_} (h:okX (G+1) l):okX G (arrivePart l).1:=wX h (WA h.1.1) (Ww (n:=0) h.1.1) (AiF h.2)
def Aje {G:Nat} {l:N_} (h:okX (G+1) l):okX G (requestNext l).1:=wX h (SA h.1.1) (Ww (n:=1) h.1.1) (Ai2 h.2)
def Ai5 {G:Nat} {l:N_} (h:okX (G+1) l):okX G (guessNext l).1:=wX h (AbL h.1.1) (Ww (n:=2) h.1.1) (AgK h.2)
def AiA {G:Nat} {l:N_} (h:okX (G+1) l) (b:Int):okX G (transfer l b).1:=wX h (L0 (H2 h.1.1) b) (bT (KL l b) (cw _ _)) (Afj h.2 b)
def Ait {G H:Nat} {l:N_} (h:okX H l) (hle:G<=H):okX G l:=⟨Jw h.1 hle,h.2⟩
def Ajk {G:Nat} {l:N_} (h:okX G l):okAct l:=Jh h.1.1
def AgL {n:az} {a:D_} (cs:List Int) (h:okN n) (ha:szAddr a<=1000):okX 1200 (startLoad n a cs).1:=⟨Aaw cs (by have:=WD h;omega) o_,by unfold startLoad;split<;>exact Nat.zero_le _⟩
abbrev TQ:Xct:=⟨[.u],[.sl .server],λ(x:T_)=>True,λ(x:T_) (y:bX)=>szL An y.1<=120000⟩
def Ak3:=AkS.X TQ<|Xct.o (KP [0,2,3,7] [8,17]) AkS.2 func303 (by
 rintro⟨(c:PUnit),_⟩ hp;refine ho (.dr Iw ((),()) λ(y1:bX)=>.dr BX ((),(12:Int),()) λ(y2:B_)=>.br (y2.1==0) (.dr Nf ((),[(⟨#[104,111,109,101]⟩:ByteArray),(⟨#[]⟩:ByteArray),(⟨#[109,111,114,101]⟩:ByteArray)],()) λ(y5:K_)=>.ob (IA (y1.1.length+[(⟨y5.1,[]⟩:ax)].length) 40)<|.lx TQ (y1.1++[(⟨y5.1,[]⟩:ax)],())) (.br (y2.1==1) (.ob ((0:Int)<=(0:Int)/\(0:Int)<(y1.1.length:Int))<|.ob (0<y1.1.length)<|.dr Nf ((),[(⟨#[97,112,112]⟩:ByteArray),(⟨#[]⟩:ByteArray),(⟨#[122,122,122]⟩:ByteArray)],()) λ(y11:K_)=>.dr LP ((),()) λ(y12:aP)=>.ap ((y1.1.getD 0 default).files.length+[(⟨y11.1,y12.1⟩:cC)].length) 80<|.ob ((0:Int)<=(0:Int)/\(0:Int)<(y1.1.length:Int))<|.re (0)<|.lt (List ax) (y1.1.modify 0 λz=>(⟨z.host,(y1.1.getD 0 default).files++[(⟨y11.1,y12.1⟩:cC)]⟩:ax)) λz2=>.lx TQ (z2,())) (.lx TQ (y1.1,())))) ?_;refine CI trivial λ(y1:bX) i1=>CI trivial λ(y2:B_) i2=>Aa (λh3=>FL ?_ λo4 (y5:K_) i5=>Ab ?_ λ_=>lxY ?_) (λh3=>Aa (λh7=>Ab ?_ λ_=>Ab ?_ λ_=>FL ?_ λo10 (y11:K_) i11=>CI trivial λ(y12:aP) i12=>Ed ?_ λ_=>Ab ?_ λ_=>Ai<|AfJ λz2 ez2=>lxY ?_) λh7=>lxY ?_)<;>(try subst_vars)<;>(try simp only[std,Nat.reduceAdd] at *)<;>(first|omega|(refine⟨?_,?_,?_⟩<;>decide)|skip)<;>(have hl:=Ac An y1.1;have hf:=NS y1.1 0)<;>(first|omega|(rw[Abb];omega)|(refine bT (UV _ _ _ _) ?_;simp only[Ad];omega)|skip))
abbrev RN:Xct:=⟨[.u],[.el .cache],λ(x:T_)=>True,λ(x:T_) (y:cz)=>szCache y.1<=80000⟩
abbrev Ep (c:Unit):LInv:=⟨[⟨.b,3,true,.el .cache⟩,⟨.s,4,true,.el .int⟩,⟨.b,2,true,.el .cache⟩],λ(z x:ci)=>(0<=x.2.1/\x.2.1<=5/\szCache x.1<=80000)/\x.2.2.1=z.2.2.1,λ(x:ci)=>x.2.1.toNat⟩
def AnK:=Ak3.X RN<|Xct.p (KP [0,2,3,4,5,6] [11]) (λ⟨c,_⟩=>lv [(3,Ep c)]) Ak3.2 func369 (by
 rintro⟨(c:PUnit),_⟩ hp;refine ho (.dr BX ((),(6:Int),()) λ(y1:B_)=>lpx (Ep c) (default,(y1.1,(default,()))) λ(y2:ci) bk2=>.br (decide (y2.2.1>0)) (.dr U2 ((),()) λ(y4:K_)=>.dr UW ((),()) λ(y5:aK)=>.dr BX ((),(5:Int),()) λ(y6:B_)=>.dr C0 ((),wr ((1:Int)+y6.1),()) λ(y8:aP)=>.dr BX ((),(9:Int),()) λ(y9:B_)=>.cl B5 (y2.1,y4.1,y5.1,y8.1,y9.1,()) λz2=>.bk (bk2 (z2.1,(wr (y2.2.1-(1:Int)),(y2.2.2.1,()))))) (.lx RN (y2.1,()))) ?_;refine CI trivial λ(y1:B_) i1=>Am ?_ λ(y2:ci) i2=>Aa (λh3=>CI trivial λ(y4:K_) i4=>CI trivial λ(y5:aK) i5=>CI trivial λ(y6:B_) i6=>FL ?_ λo7 (y8:aP) i8=>CI trivial λ(y9:B_) i9=>Do ?_ λo10 z2 ez2=>AR ?_) (λh3=>lxY ?_)<;>(try subst_vars)<;>(try simp only[std,Nat.reduceAdd] at *)<;>(try simp(disch:=omega) only[FS] at *)<;>(first|omega|exact⟨o_,o_,by decide⟩|exact⟨⟨o_,o_,K6 _ _ _ _ _ o_ o_⟩,o_⟩|exact⟨⟨⟨o_,o_,K6 _ _ _ _ _ o_ o_⟩,i2.2⟩,o_⟩|(simp only[szAddr,Ad];exact⟨o_,o_,o_,o_⟩)|skip))
abbrev So:Xct:=⟨[.u],[.el .cache],λ(x:T_)=>True,λ(x:T_) (y:cz)=>szCache y.1<=110000⟩
abbrev F7 (c:Unit):LInv:=⟨[⟨.b,3,true,.el .cache⟩,⟨.s,4,true,.el .int⟩,⟨.b,2,true,.el .cache⟩],λ(z x:ci)=>(0<=x.2.1/\x.2.1<=101/\szCache x.1<=80000+20*x.2.1.toNat)/\x.2.2.1=z.2.2.1,λ(x:ci)=>101-x.2.1.toNat⟩
def Al3:=AnK.X So<|Xct.p (KP [0,2,3,4,8] [9,24,27]) (λ⟨c,_⟩=>lv [(7,F7 c)]) AnK.2 func304 (by
 rintro⟨(c:PUnit),_⟩ hp;refine ho (let aC:=(20:Int)≠(0:Int);let aj:=(⟨#[99,100,110]⟩:ByteArray);let Q_:=(⟨#[]⟩:ByteArray);let H_:=(⟨#[104,111,109,101]⟩:ByteArray);let E_:=(⟨(200:Int),(2:Int),Q_,(0:Int),false,Q_⟩:R_);.dr RN ((),()) λ(y1:cz)=>.dr BX ((),(12:Int),()) λ(y2:B_)=>.br (y2.1==0) (.dr Nf ((),[H_,Q_],()) λ(y5:K_)=>.dr Xf ((),()) λ(y6:aK)=>.dr LP ((),()) λ(y7:aP)=>let M_:=(⟨y5.1,y6.1,y7.1,(0:Int)⟩:bU);.ap (y1.1.bg.length+[M_].length) 120<|.lx So (⟨y1.1.bg++[M_]⟩,())) (.br (y2.1==1) (lpx (F7 c) (y1.1,((0:Int),(default,()))) λ(y10:ci) bk10=>let U_:=wr ((97:Int)+y10.2.1.tmod (20:Int));let L_:=wr ((97:Int)+wr (y10.2.1.tdiv (20:Int)));.br (decide (y10.2.1<101)) (.ob aC<|.ob aC<|.ob (True)<|.ap (y10.1.bg.length+[(⟨H_,(⟨aj,List.foldl (λr n=>r.push (UInt8.ofNat n.toNat)) ByteArray.empty [IntKind.u8.wrap U_,IntKind.u8.wrap L_]⟩:D_),E_,(0:Int)⟩:bU)].length) 120<|.re (Value.int IntKind.i64 y2.1)<|.bk (bk10 ((⟨y10.1.bg++[(⟨H_,(⟨aj,List.foldl (λr n=>r.push (UInt8.ofNat n.toNat)) ByteArray.empty [IntKind.u8.wrap U_,IntKind.u8.wrap L_]⟩:D_),E_,(0:Int)⟩:bU)]⟩:bv),(w1 y10.2.1,(y10.2.2.1,()))))) (.lx So (y10.1,()))) (.lx So (y1.1,())))) ?_;refine CI trivial λ(y1:cz) i1=>CI trivial λ(y2:B_) i2=>Aa (λh3=>FL ?_ λo4 (y5:K_) i5=>CI trivial λ(y6:aK) i6=>CI trivial λ(y7:aP) i7=>Ed ?_ λ_=>lxY ?_) (λh3=>Aa (λh9=>Am ?_ λ(y10:ci) i10=>Aa (λh11=>Ab ?_ λ_=>Ab ?_ λ_=>Ab trivial λ_=>Ed ?_ λ_=>Ai<|AR ?_) λh11=>lxY ?_) λh9=>lxY ?_)<;>(try simp only[std,Nat.reduceAdd] at *)<;>(first|omega|(refine⟨?_,?_,?_⟩<;>decide)|skip)<;>have hl:∀ x:bv,x.bg.length<=szCache x:=λx=>Ac AY x.bg<;>(have h1:=hl y1.1;try have h2:=hl y10.1)<;>have hc:∀ (x:bv) (e:bU),szCache { bg:=x.bg++[e]}=szCache x+AY e+1:=λx e=>Ek _ _ _<;>(try rw[hc])<;>(try simp only[AY,szAddr,Ad] at *)<;>have h5:∀ a b:Int,(List.foldl (λr n=>r.push (UInt8.ofNat n.toNat)) ByteArray.empty [a,b]).size=2:=λ_ _=>rfl<;>(try rw[FS (n:=y10.2.1+1) o_ o_])<;>(try rw[h5])<;>(try simp only[show ByteArray.size ⟨#[104,111,109,101]⟩=4 from rfl,show ByteArray.size ⟨#[99,100,110]⟩=3 from rfl,show ByteArray.size ⟨#[]⟩=0 from rfl])<;>(first|omega|exact⟨⟨⟨o_,o_,o_⟩,i10.2⟩,o_⟩|skip))
abbrev Ab6:Xct:=⟨[.u],[.el .net],λ(x:T_)=>True,λ(x:T_) (y:bJ)=>okN y.1⟩
def AiT {l:List ax} (h:szL An l<=120000) (now:Int):okN ⟨l,default,[],now⟩:=⟨h,(by decide:szCache default<=110000),(by decide:szL Ge []<=300*0),(by decide:0<=400)⟩
def AhR {n:az} (h:okN n):szNet n<=9000000000/\szCache n.cache<=90000000/\szL An n.servers<=10000000:=by
 have:=WD h;obtain⟨h1,h2,h3,h4⟩:=h;exact⟨o_,o_,o_⟩
abbrev Hb (c:Unit):LInv:=⟨[⟨.b,3,true,.el .net⟩,⟨.s,4,true,.el .int⟩,⟨.b,2,true,.el .net⟩],λ(z x:cj)=>(0<=x.2.1/\x.2.1<=3/\okN x.1)/\x.2.2.1=z.2.2.1,λ(x:cj)=>x.2.1.toNat⟩
def AjO:=Al3.X Ab6<|Xct.p (KP [0,2,3,4,5] [14]) (λ⟨c,_⟩=>lv [(3,Hb c)]) Al3.2 func302 (by
 rintro⟨(c:PUnit),_⟩ hp;refine ho (.dr Iw ((),()) λ(y1:bX)=>.dr BX ((),(20:Int),()) λ(y2:B_)=>.dr BX ((),(4:Int),()) λ(y3:B_)=>lpx (Hb c) ((⟨y1.1,default,[],y2.1⟩:az),(y3.1,(default,()))) λ(y4:cj) bk4=>.br (decide (y4.2.1>0)) (.dr Nf ((),[(⟨#[104,111,109,101]⟩:ByteArray),(⟨#[99,100,110]⟩:ByteArray)],()) λ(y7:K_)=>.dr UW ((),()) λ(y8:aK)=>.dr Kf ((),(3:Int),()) λ(y9:am)=>.cl Bj (y4.1,y7.1,y8.1,y9.1,()) λz2=>.bk (bk4 (z2.1,(wr (y4.2.1-(1:Int)),(y4.2.2.1,()))))) (.lx Ab6 (y4.1,()))) ?_;refine CI trivial λ(y1:bX) i1=>CI trivial λ(y2:B_) i2=>CI trivial λ(y3:B_) i3=>Am ?_ λ(y4:cj) i4=>Aa (λh5=>FL ?_ λo6 (y7:K_) i7=>CI trivial λ(y8:aK) i8=>CI trivial λ(y9:am) i9=>Do ?_ λo10 z2 ez2=>AR ?_) (λh5=>lxY ?_)<;>(try subst_vars)<;>(try simp only[std,Nat.reduceAdd] at *)<;>(try simp(disch:=omega) only[FS] at *)<;>(first|omega|exact⟨o_,o_,AiT o_ _⟩|(refine⟨?_,?_,?_⟩<;>decide)|skip)<;>(have b3:=i4.1.2.2;try have b4:=AhR b3)<;>(try simp only[szAddr])<;>(first|exact b3|exact⟨b4.1,b4.2.1,b4.2.2,o_,o_⟩|exact⟨⟨⟨o_,o_,AaK b3 _ i7 (by simp only[szAddr];omega)⟩,i4.2⟩,o_⟩|skip))
def Agq {n:az} (h:okN n) (hl:n.log.length<400) {a:D_} (ha:szAddr a<=60):okN { n with log:=n.log++[⟨⟨#[104,111,109,101]⟩,a,false⟩]}:=by
 obtain⟨h1,h2,h3,h4⟩:=h;refine⟨h1,h2,?_,?_⟩
 ·dsimp only;rw[Ek,al,aw,aJ];simp only[Ge,show ByteArray.size ⟨#[104,111,109,101]⟩=4 from rfl];omega
 ·dsimp only;rw[al,aw,aJ];omega
abbrev GT (c:Unit):LInv:=⟨[⟨.b,3,true,.el .net⟩,⟨.b,2,true,.el .net⟩],λ(z x:dJ)=>(okN x.1)/\x.2.1=z.2.1,λ(x:dJ)=>400-x.1.log.length⟩
def Ajz:=AjO.X Ab6<|Xct.p (KP [0,2,3,7] [8,13,18,24,29]) (λ⟨c,_⟩=>lv [(10,GT c)]) AjO.2 func196 (by
 rintro⟨(c:PUnit),_⟩ hp;refine ho (.dr Ab6 ((),()) λ(y1:bJ)=>.dr BX ((),(14:Int),()) λ(y2:B_)=>.br (y2.1==0) (.dr TQ ((),()) λ(y4:bX)=>.lx Ab6 ({y1.1 with servers:=y4.1},())) (.br (y2.1==1) (.dr So ((),()) λ(y6:cz)=>.lx Ab6 ({y1.1 with cache:=y6.1},())) (.br (y2.1==2) (.dr RZ ((),[(-1:Int),(999999998000:Int),(999999998001:Int)],()) λ(y9:B_)=>.lx Ab6 ({y1.1 with now:=y9.1},())) (.br (y2.1==3) (lpx (GT c) (y1.1,(default,())) λ(y11:dJ) bk11=>.br (decide ((y11.1.log.length:Int)<400)) (.dr UW ((),()) λ(y13:aK)=>let E_:=(⟨(⟨#[104,111,109,101]⟩:ByteArray),y13.1,false⟩:bN);.ap (y11.1.log.length+[E_].length) 56<|.re (Value.int IntKind.i64 y2.1)<|.bk (bk11 (({y11.1 with log:=y11.1.log++[E_]}:az),(y11.2.1,())))) (.lx Ab6 (y11.1,()))) (.lx Ab6 (y1.1,())))))) ?_;refine CI trivial λ(y1:bJ) i1=>CI trivial λ(y2:B_) i2=>Aa (λh3=>CI trivial λ(y4:bX) i4=>lxY ?_) (λh3=>Aa (λh5=>CI trivial λ(y6:cz) i6=>lxY ?_) λh5=>Aa (λh7=>FL ?_ λo8 (y9:B_) i9=>lxY ?_) λh7=>Aa (λh10=>Am ?_ λ(y11:dJ) i11=>Aa (λh12=>CI trivial λ(y13:aK) i13=>Ed ?_ λ_=>Ai<|AR ?_) λh12=>lxY ?_) λh10=>lxY ?_)<;>(try simp only[std,Nat.reduceAdd] at *)<;>(first|exact⟨i1.1.trans o_,i1.2⟩|exact i1|exact⟨i4,i1.2⟩|exact⟨i1.1,i6,i1.2.2⟩|exact⟨by decide,by decide⟩|exact⟨i1.1,i1.2.1,i1.2.2.1,i1.2.2.2⟩|skip)<;>have hlen:=i11.1.2.2.2<;>(first|omega|exact i11.1|exact⟨⟨Agq i11.1 o_ (by simp only[szAddr];omega),i11.2⟩,by rw[al,aw,aJ];omega⟩|skip))
def smN (n:az):Prop:=okF n.servers/\∀ e,e∈n.cache.bg->e.bd.body.size<=400
def Xl {l:List ax} (h:okF l) (a:D_):(answerTo l a).body.size<=400:=by
 unfold answerTo;split
 ·exact Nat.zero_le _
 ·split
  ·exact Nat.zero_le _
  ·rename_i h1 h2;have h3:=DI (λs:ax=>decide (s.host=a.host)) l 0 o_;have h4:=DI (λf:cC=>decide (f.path=a.path)) (l.getD (fidx (λs:ax=>decide (s.host=a.host)) l 0).toNat default).files 0 o_;exact h _ (AH o_) _ (AH o_)
def AdS {n:az} (h:smN n) (t:ByteArray) (a:D_):((lookUp n.cache t a n.now).getD notFound).body.size<=400:=by
 unfold lookUp;cases q:n.cache.bg.find? (freshEntry t a n.now) with
 | none=>exact Nat.zero_le _
 | some e=>exact h.2 e (List.mem_of_find?_eq_some q)
def keep_sm {n:az} (h:smN n) (t:ByteArray) (a:D_) (x:R_):smN (keepAnswer n t a x):=by
 unfold keepAnswer;split
 ·refine⟨h.1,λe he=>?_⟩;have he:e∈(storeEntry n.cache t a x n.now).bg:=he;unfold storeEntry at he;split at he
  ·rename_i q;have q:=q.2.2.2;unfold isCache at q;rw[Z_] at q;exact WK (JS q.1 e he)
  ·exact h.2 e he
 ·exact h
def AeW {n:az} (h:smN n) (t:ByteArray) (a:D_) (g:Bool):smN (logSent n t a g):=by
 unfold logSent;split<;>exact h
def Ry {n:az} (h:smN n) (t:ByteArray) (a:D_) (g:Bool):smN (fetchNow n t a g).1/\(fetchNow n t a g).2.body.size<=400:=by
 unfold fetchNow;split
 ·exact⟨h,Nat.zero_le _⟩
 ·split
  ·exact⟨h,AdS h t a⟩
  ·refine⟨?_,Xl h.1 a⟩;dsimp only;split
   ·exact AeW h t a g
   ·exact keep_sm (AeW h t a g) _ _ _
abbrev WE:Xct:=⟨[.u],[.el .net],λ(x:T_)=>True,λ(x:T_) (y:bJ)=>okN y.1/\smN y.1⟩
abbrev Gi (c:Unit):LInv:=⟨[⟨.b,3,true,.el .net⟩,⟨.s,15,true,.el .int⟩,⟨.s,13,true,.sl .str⟩,⟨.b,2,true,.el .net⟩],λ(z x:dK)=>(0<=x.2.1/\x.2.1<=2/\szL An x.1.servers<=100000+5000*x.2.1.toNat/\x.1.cache=default/\okF x.1.servers/\x.1.log.length=0/\x.2.2.1.length=2/\x.2.2.1.all (λs=>decide (s.size<=30))=true)/\x.2.2.2.1=z.2.2.2.1,λ(x:dK)=>2-x.2.1.toNat⟩
abbrev Gj (c:Unit):LInv:=⟨[⟨.b,3,true,.el .net⟩,⟨.s,7,true,.el .int⟩,⟨.b,2,true,.el .net⟩],λ(z x:cj)=>(0<=x.2.1/\x.2.1<=2/\okN x.1/\smN x.1)/\x.2.2.1=z.2.2.1,λ(x:cj)=>x.2.1.toNat⟩
def AmR:=Ajz.X WE<|Xct.p (KP [0,2,3,5,6,7,13,14,15] [16,42]) (λ⟨c,_⟩=>λ|3=>some (Gi c)|9=>some (Gj c)|_=>none) Ajz.2 func92 (by
 rintro⟨(c:PUnit),_⟩ hp;refine ho (.dr Iw ((),()) λ(y1:bX)=>.dr BX ((),(20:Int),()) λ(y2:B_)=>lpx (Gi c) ((⟨y1.1,default,[],y2.1⟩:az),((0:Int),([(⟨#[105,110,100,101,120]⟩:ByteArray),(⟨#[110,101,120,116]⟩:ByteArray)],(default,())))) λ(y3:dK) bk3=>.br (decide (y3.2.1<2)) (.ix y3.2.1 y3.2.2.1.length<|.dr TY ((),()) λ(y7:K_)=>.dr II ((),()) λ(y8:bO)=>.cl AN (y8.1,()) λz2=>.dr RZ ((),[(0:Int),(5:Int)],()) λ(y11:B_)=>.dr CK (y3.1.servers,(⟨(⟨#[104,111,109,101]⟩:ByteArray),y3.2.2.1.getD y3.2.1.toNat default⟩:D_),(⟨(200:Int),(1:Int),y7.1,y11.1,false,z2.1⟩:R_),()) λ(y13:aA)=>.re (Value.int IntKind.i64 (2:Int))<|.bk (bk3 ((⟨y13.1,y3.1.cache,y3.1.log,y3.1.now⟩:az),(w1 y3.2.1,(y3.2.2.1,(y3.2.2.2.1,())))))) (.dr BX ((),(3:Int),()) λ(y15:B_)=>lpx (Gj c) (y3.1,(y15.1,(y3.2.2.2.1,()))) λ(y16:cj) bk16=>.br (decide (y16.2.1>0)) (.dr UW ((),()) λ(y18:aK)=>.cl Bj (y16.1,(⟨#[104,111,109,101]⟩:ByteArray),y18.1,false,()) λz3=>.re (Value.int IntKind.i64 y3.2.1)<|.re (Value.int IntKind.i64 (2:Int))<|.bk (bk16 (z3.1,(wr (y16.2.1-(1:Int)),(y16.2.2.1,()))))) (.lx WE (y16.1,())))) ?_;refine CI trivial λ(y1:bX) i1=>CI trivial λ(y2:B_) i2=>Am ?_ λ(y3:dK) i3=>Aa (λh4=>Ei ?_ λo5 o6=>CI trivial λ(y7:K_) i7=>CI trivial λ(y8:bO) i8=>Do ?_ λo9 z2 ez2=>(FL ?_ λo10 (y11:B_) i11=>FL ?_ λo12 (y13:aA) i13=>Ai<|AR ?_)) (λh4=>CI trivial λ(y15:B_) i15=>Am ?_ λ(y16:cj) i16=>Aa (λh17=>CI trivial λ(y18:aK) i18=>Do ?_ λo19 z3 ez3=>(Ai<|Ai<|AR ?_)) λh17=>lxY ?_)<;>(try subst_vars)<;>(try have q1:=KY i8)<;>(try have q2:=Gq y8.1)<;>(try simp only[std,Nat.reduceAdd] at *)<;>(have e0:szCache (default:bv)=0:=by decide)<;>(have hr:∀ (l:List ByteArray) (i:Nat),(l.all λs=>decide (s.size<=30))=true->i<l.length->(l.getD i default).size<=30:=λl i h hi=>by have:=bM.1 h _ (AH hi);simpa using this)<;>(try obtain⟨⟨b1,b2,b3,b4,b9,b5,b6,b7⟩,b8⟩:=i3)<;>(try have f13:=i13.2.2.2 b9)<;>(try have c1:=hr y3.2.2.1 y3.2.1.toNat b7 o_)<;>(first|omega|exact⟨o_,o_,o_,rfl,i1.2.2,rfl,rfl,by decide⟩|exact⟨o_,o_⟩|exact⟨o_,o_,o_,i1.2.2,by decide⟩|skip)<;>(try simp only[szAddr,Ad,show ByteArray.size ⟨#[104,111,109,101]⟩=4 from rfl] at *)<;>(try rw[FS o_ o_])<;>(first|omega|exact⟨o_,o_,o_⟩|exact⟨⟨⟨o_,o_,o_,b4,f13,b5,b6,b7⟩,b8⟩,o_⟩|skip)<;>(first|exact⟨o_,o_,⟨o_,by rw[b4];decide,by rw[List.length_eq_zero_iff.1 b5];decide,o_⟩,b9,by rw[b4];exact λe h=>nomatch h⟩|skip)<;>(have k3:=i16.1.2.2.1;have k5:=i16.1.2.2.2;have k4:=AhR k3)<;>(first|exact⟨k3,k5⟩|exact⟨k4.1,k4.2.1,k4.2.2,o_,o_⟩|exact⟨⟨⟨o_,o_,AaK k3 _ (by decide) (by simp only[szAddr];omega),(Ry k5 _ _ _).1⟩,i16.2⟩,o_⟩|skip))
abbrev Np:Xct:=⟨[.u],[.el .addr],λ(x:T_)=>True,λ(x:T_) (y:aK)=>szAddr y.1<=200⟩
def Al9:=AmR.X Np<|Xct.o [0,2] AmR.2 func93 (by
 rintro⟨(c:PUnit),_⟩ hp;refine ho (.dr Nf ((),[(⟨#[105,110,100,101,120]⟩:ByteArray),(⟨#[105,110,100,101,120]⟩:ByteArray),(⟨#[110,101,120,116]⟩:ByteArray)],()) λ(y2:K_)=>.lx Np (⟨(⟨#[104,111,109,101]⟩:ByteArray),y2.1⟩,())) ?_;refine FL ?_ λo1 (y2:K_) i2=>lxY ?_<;>(try simp only[std,Nat.reduceAdd] at *)<;>(first|(refine⟨?_,?_,?_⟩<;>decide)|(simp only[szAddr,show ByteArray.size ⟨#[104,111,109,101]⟩=4 from rfl];omega)|skip))
abbrev S2:Xct:=⟨[.u],[.el .net,.el .addr],λ(x:T_)=>True,λ(x:T_) (y:ew)=>okN y.1/\szAddr y.2.1<=300⟩
def AlD:=Al9.X S2<|Xct.o (KP [0,2,3,4,5,11] [12,16]) Al9.2 func108 (by
 rintro⟨(c:PUnit),_⟩ hp;refine ho (.dr WE ((),()) λ(y1:bJ)=>.dr Np ((),()) λ(y2:aK)=>.dr BX ((),(14:Int),()) λ(y3:B_)=>.br (y3.1==0) (.dr Ab6 ((),()) λ(y5:bJ)=>.du (.lx S2 (y5.1,y2.1,()))) (.br (y3.1==1) (.dr Xf ((),()) λ(y9:aK)=>.du (.lx S2 (y1.1,y9.1,()))) (.du (.lx S2 (y1.1,y2.1,()))))) ?_;refine CI trivial λ(y1:bJ) i1=>CI trivial λ(y2:aK) i2=>CI trivial λ(y3:B_) i3=>Aa (λh4=>CI trivial λ(y5:bJ) i5=>Ain (lxY ?_)) (λh4=>Aa (λh8=>CI trivial λ(y9:aK) i9=>Ain (lxY ?_)) λh8=>Ain (lxY ?_))<;>(try simp only[std,Nat.reduceAdd] at *)<;>(first|exact⟨i1.1,o_⟩|exact⟨‹_›,o_⟩|(simp only[szAddr] at *;exact⟨‹_›,o_⟩)|(simp only[szAddr] at *;exact⟨i1.1,o_⟩)|skip))
abbrev Rh:Xct:=⟨[.u],[.sl .int],λ(x:T_)=>True,λ(x:T_) (y:W_)=>y.1.length<=4⟩
abbrev FE (c:Unit):LInv:=⟨[⟨.s,3,true,.sl .int⟩,⟨.s,4,true,.el .int⟩],λ_ (x:an)=>0<=x.2.1/\x.2.1<=4/\x.1.length+x.2.1<=4,λ(x:an)=>x.2.1.toNat⟩
def AkH:=AlD.X Rh<|Xct.p (KP [0,2,3,4] [9]) (λ⟨c,_⟩=>lv [(3,FE c)]) AlD.2 func88 (by
 rintro⟨(c:PUnit),_⟩ hp;refine ho (.dr BX ((),(5:Int),()) λ(y1:B_)=>lpx (FE c) ([],(y1.1,())) λ(y2:an) bk2=>.br (decide (y2.2.1>0)) (.dr BX ((),(120:Int),()) λ(y4:B_)=>.ap (y2.1.length+[wr (y4.1-(1:Int))].length) 8<|.bk (bk2 (y2.1++[wr (y4.1-(1:Int))],(wr (y2.2.1-(1:Int)),())))) (.lx Rh (y2.1,()))) ?_;refine CI trivial λ(y1:B_) i1=>Am ?_ λ(y2:an) i2=>Aa (λh3=>CI trivial λ(y4:B_) i4=>Ed ?_ λ_=>AR ?_) (λh3=>lxY ?_)<;>(try simp only[std,Nat.reduceAdd,al,aw,aJ] at *)<;>(try simp(disch:=omega) only[FS] at *)<;>(first|omega|exact⟨o_,o_,o_⟩|exact⟨⟨o_,o_,o_⟩,o_⟩|skip))
abbrev N3:Xct:=⟨[.u],[.el .loader],λ(x:T_)=>True,λ(x:T_) (y:aD)=>okX 1150 y.1⟩
abbrev DP (c:Unit):LInv:=⟨[⟨.b,5,true,.el .loader⟩,⟨.s,7,true,.el .int⟩,⟨.b,2,true,.el .loader⟩],λ(z x:aq)=>(0<=x.2.1/\x.2.1<=9/\okX (1150+x.2.1.toNat) x.1)/\x.2.2.1=z.2.2.1,λ(x:aq)=>x.2.1.toNat⟩
def Akp:=AkH.X N3<|Xct.p (KP [0,2,3,4,5,7,28] [24,37,44,51]) (λ⟨c,_⟩=>lv [(4,DP c)]) AkH.2 func35 (by
 rintro⟨(c:PUnit),_⟩ hp;refine ho (.dr S2 ((),()) λ(y1:ew)=>.dr Rh ((),()) λ(y2:W_)=>.cl Ho (y1.1,y1.2.1,y2.1,()) λz2=>.dr BX ((),(10:Int),()) λ(y4:B_)=>lpx (DP c) (z2.1,(y4.1,(default,()))) λ(y5:aq) bk5=>.br (decide (y5.2.1>0)) (.dr BX ((),(4:Int),()) λ(y7:B_)=>.br (y7.1==0) (.cl CN (y5.1,()) λz3=>.bk (bk5 (z3.1,(wr (y5.2.1-(1:Int)),(y5.2.2.1,()))))) (.br (y7.1==1) (.cl Ci (y5.1,()) λz4=>.bk (bk5 (z4.1,(wr (y5.2.1-(1:Int)),(y5.2.2.1,()))))) (.br (y7.1==2) (.cl CZ (y5.1,()) λz5=>.bk (bk5 (z5.1,(wr (y5.2.1-(1:Int)),(y5.2.2.1,()))))) (.dr BX ((),(60:Int),()) λ(y17:B_)=>.cl Ea (y5.1,wr ((1:Int)+y17.1),()) λz6=>.bk (bk5 (z6.1,(wr (y5.2.1-(1:Int)),(y5.2.2.1,())))))))) (.lx N3 (y5.1,()))) ?_;refine CI trivial λ(y1:ew) i1=>CI trivial λ(y2:W_) i2=>Do ?_ λo3 z2 ez2=>(CI trivial λ(y4:B_) i4=>Am ?_ λ(y5:aq) i5=>Aa (λh6=>CI trivial λ(y7:B_) i7=>Aa (λh8=>Do ?_ λo9 z3 ez3=>AR ?_) λh8=>Aa (λh11=>Do ?_ λo12 z4 ez4=>AR ?_) λh11=>Aa (λh14=>Do ?_ λo15 z5 ez5=>AR ?_) λh14=>CI trivial λ(y17:B_) i17=>Do ?_ λo18 z6 ez6=>AR ?_) λh6=>lxY ?_)<;>(try subst_vars)<;>(try simp only[std,Nat.reduceAdd] at *)<;>(try have a1:=WD i1.1)<;>(try simp(disch:=omega) only[FS] at *)<;>(first|omega|exact⟨o_,o_,o_⟩|exact⟨o_,o_,Ait (AgL _ i1.1 o_) o_⟩|skip)<;>(have d0:=i5.1.2.2;have d1:=Ajk d0)<;>(first|exact d1.1|exact d1.2.1|exact d1.2.2.1|exact d1.2.2.2|exact Ait d0 o_|skip)<;>have d2:=Ait (G:=1150+(y5.2.1-1).toNat+1) d0 o_<;>(first|exact⟨⟨⟨o_,o_,Aiw d2⟩,i5.2⟩,o_⟩|exact⟨⟨⟨o_,o_,Aje d2⟩,i5.2⟩,o_⟩|exact⟨⟨⟨o_,o_,Ai5 d2⟩,i5.2⟩,o_⟩|exact⟨⟨⟨o_,o_,AiA d2 _⟩,i5.2⟩,o_⟩|skip))
def Abg (n:az) (t:ByteArray) (a:D_) (g:Bool):∃ r,(logSent n t a g).log=n.log++r:=by
 unfold logSent;split
 ·exact⟨_,rfl⟩
 ·exact⟨[],(cF _).symm⟩
def keep_log (n:az) (t:ByteArray) (a:D_) (x:R_):(keepAnswer n t a x).log=n.log:=by
 unfold keepAnswer;split<;>rfl
def Ta (n:az) (t:ByteArray) (a:D_) (g:Bool):∃ r,(fetchNow n t a g).1.log=n.log++r:=by
 unfold fetchNow;split
 ·exact⟨[],(cF _).symm⟩
 ·split
  ·exact⟨[],(cF _).symm⟩
  ·dsimp only;split
   ·exact Abg n t a g
   ·rw[keep_log];exact Abg n t a g
def thr (lg:List bN) (l:N_):Prop:=smN l.net/\(∀ g,g∈l.guesses->g.bd.body.size<=400)/\(∀ c,c∈l.conns->c.bd.body.size<=400)/\countIf (λg:au=>!g.used) l.guesses+(countGuess l.conns:Int)<=6/\∃ r,l.net.log=lg++r
def AhK {lg a b:List bN} (h:∃ r,a=lg++r) (h2:∃ r,b=a++r):∃ r,b=lg++r:=by
 obtain⟨r,rfl⟩:=h;obtain⟨q,rfl⟩:=h2;exact⟨r++q,bB ..⟩
def Ox (l:List V_) (a:D_) (x:R_) (g:Bool):(openConn l a x g).1=l\/(openConn l a x g).1=l++[⟨a,sizeResponse x,g,x⟩]:=by
 unfold openConn;split
 ·exact .inl rfl
 ·exact .inr rfl
def Afm (l:List au) (a:D_):(∀ g,g∈(useGuess l a).1->∃ z,z∈l/\g.bd=z.bd)/\countIf (λg:au=>!g.used) (useGuess l a).1<=countIf (λg:au=>!g.used) l:=by
 unfold useGuess;split
 ·exact⟨λg h=>⟨g,h,rfl⟩,Int.le_refl _⟩
 ·refine⟨λg h=>?_,?_⟩
  ·rcases J6 h with q|⟨z,h1,h2⟩
   ·exact⟨g,q,rfl⟩
   ·exact⟨z,h1,by rw[h2]⟩
  ·have key:∀ (m:List au) (i:Nat),countIf (λg:au=>!g.used) (m.modify i λg=>{ g with used:=true })<=countIf (λg:au=>!g.used) m:=by
    intro m
    induction m with
    | nil=>intro i;cases i<;>exact Int.le_refl _
    | cons g m ih=>
     intro i;cases i with
     | zero=>
      show countIf (λg:au=>!g.used) ({ g with used:=true }::m)<=_;simp only[countIf];simp only[Bool.not_true,cX,bC];split<;>omega
     | succ i=>
      have:=ih i;show countIf (λg:au=>!g.used) (g::m.modify i _)<=_;simp only[countIf];omega
   exact key _ _
def AiJ {lg:List bN} {l:N_} (h:thr lg l):thr lg (arrivePart l).1:=by
 unfold arrivePart;split<;>exact h
def WR {lg:List bN} {l:N_} (h:thr lg l) (t:ByteArray) (a:D_) (g:Bool) (hg:g=false\/countIf (λg:au=>!g.used) l.guesses+(countGuess l.conns:Int)<6):thr lg ⟨(fetchNow l.net t a g).1,l.page,l.parts,(openConn l.conns a (fetchNow l.net t a g).2 g).1,l.guesses⟩:=by
 obtain⟨h1,h2,h3,h4,h5⟩:=h;have hf:=Ry h1 t a g;refine⟨hf.1,h2,λc hc=>?_,?_,AhK h5 (Ta _ _ _ _)⟩
 ·rcases Ox l.conns a (fetchNow l.net t a g).2 g with q|q
  ·exact h3 c (by have hc:c∈(openConn l.conns a (fetchNow l.net t a g).2 g).1:=hc;rw[q] at hc;exact hc)
  ·have hc:c∈(openConn l.conns a (fetchNow l.net t a g).2 g).1:=hc;rw[q] at hc;rcases aR.1 hc with w|w
   ·exact h3 c w
   ·rw[List.mem_singleton.1 w];exact hf.2
 ·show countIf (λg:au=>!g.used) l.guesses+(countGuess (openConn l.conns a (fetchNow l.net t a g).2 g).1:Int)<=6;rcases Ox l.conns a (fetchNow l.net t a g).2 g with q|q
  ·rw[q];exact h4
  ·rw[q,Pf];rcases hg with w|w
   ·subst w;simp only[cX,bC];omega
   ·dsimp only;split<;>omega
def Ai1 {lg:List bN} {l:N_} (h:thr lg l):thr lg (requestNext l).1:=by
 unfold requestNext;split
 ·exact h
 ·split
  ·obtain⟨h1,h2,h3,h4,h5⟩:=h;obtain⟨u1,u2⟩:=Afm l.guesses (reqTo l);refine⟨keep_sm h1 _ _ _,λg hg=>?_,h3,?_,?_⟩
   ·obtain⟨z,z1,z2⟩:=u1 g hg;rw[z2];exact h2 z z1
   ·show countIf (λg:au=>!g.used) (useGuess l.guesses (reqTo l)).1+(countGuess l.conns:Int)<=6;omega
   ·show ∃ r,(keepAnswer _ _ _ _).log=_;rw[keep_log];exact h5
  ·split
   ·exact h
   ·exact WR h _ _ false (.inl rfl)
def Aeu {lg:List bN} {l:N_} (h:thr lg l) (hg:countIf (λg:au=>!g.used) l.guesses+(countGuess l.conns:Int)<6):∀ m,thr lg (nextGuess l m).1
 | []=>h
 | a::m=>by
  rw[nextGuess];split
  ·exact Aeu h hg m
  ·exact WR h _ _ true (.inr hg)
def AiE {lg:List bN} {l:N_} (h:thr lg l):thr lg (guessNext l).1:=by
 unfold guessNext;split
 ·exact h
 ·exact Aeu h o_ _
def AcX {l:List V_} {k:Int} (h0:0<=k) (hk:k<l.length):countGuess (closeConn l k)+(if(l.getD k.toNat default).guess then 1 else 0)=countGuess l:=by
 have e:l.take k.toNat++l.getD k.toNat default::l.drop (k.toNat+1)=l:=by rw[<-HO (show k.toNat<l.length from o_),eg]
 have app:∀ (a b:List V_),countGuess (a++b)=countGuess a+countGuess b:=by
  intro a b
  induction a with
  | nil=>simp[countGuess]
  | cons c a ih=>simp only[dp,countGuess,ih];omega
 rw[JW h0 hk,app];have g:countGuess (l.take k.toNat++l.getD k.toNat default::l.drop (k.toNat+1))=countGuess l:=by rw[e]
 rw[app] at g;simp only[countGuess] at g;omega
def Ags {α:Type} (p:α->Bool) (l:List α) (x:α):countIf p (l++[x])=countIf p l+(if p x then 1 else 0):=by
 induction l with
 | nil=>simp[countIf]
 | cons y l ih=>simp only[dp,countIf,ih];omega
def Aip {lg:List bN} {l:N_} {k:Int} (h:thr lg l) (h0:0<=k) (hk:k<l.conns.length):thr lg (finish1 l k):=by
 obtain⟨h1,h2,h3,h4,h5⟩:=h;have hc:=AcX h0 hk;have hm:∀ c,c∈closeConn l.conns k->c.bd.body.size<=400:=λc q=>by
  rw[JW h0 hk] at q;rcases aR.1 q with q|q
  ·exact h3 c (gu q)
  ·exact h3 c (gw q)
 have hr:=h3 _ (AH (l:=l.conns) (i:=k.toNat) o_);unfold finish1 finishC;dsimp only;split
 ·split
  ·refine⟨keep_sm h1 _ _ _,h2,hm,?_,?_⟩
   ·dsimp only;split at hc<;>omega
   ·show ∃ r,(keepAnswer _ _ _ _).log=_;rw[keep_log];exact h5
  ·exact⟨h1,h2,hm,by dsimp only;split at hc<;>omega,h5⟩
 ·split
  ·rename_i hgs;rw[I_ hgs] at hc;refine⟨h1,?_,hm,?_,h5⟩
   ·intro g hg;have hg:g∈(addGuess l.guesses (l.conns.getD k.toNat default).to (l.conns.getD k.toNat default).bd).1:=hg;unfold addGuess at hg;split at hg
    ·exact h2 g hg
    ·rcases aR.1 hg with q|q
     ·exact h2 g q
     ·rw[List.mem_singleton.1 q];exact hr
   ·show countIf (λg:au=>!g.used) (addGuess l.guesses (l.conns.getD k.toNat default).to (l.conns.getD k.toNat default).bd).1+(countGuess (closeConn l.conns k):Int)<=6;unfold addGuess;split
    ·dsimp only;omega
    ·dsimp only;rw[Ags];simp only[Bool.not_false,aS];omega
  ·exact⟨h1,h2,hm,by dsimp only;split at hc<;>omega,h5⟩
def AeV {lg:List bN}:∀ (n:Nat) (l:N_),thr lg l->thr lg (xfer n l)
 | 0,l,h=>h
 | n+1,l,h=>by
  rw[xfer];split
  ·exact h
  ·have hd:=Da l.conns 0 o_;exact AeV n _ (Aip h o_ o_)
def AgB {lg:List bN} {l:N_} (h:thr lg l) (b:Int):thr lg (moved l b):=by
 obtain⟨h1,h2,h3,h4,h5⟩:=h;have hm:(∀ c,c∈moveConns l.conns b->c.bd.body.size<=400)/\countGuess (moveConns l.conns b)=countGuess l.conns:=by
  unfold moveConns;split
  ·refine⟨λc hc=>?_,?_⟩
   ·obtain⟨z,hz,rfl⟩:=eu.1 hc;exact h3 z hz
   ·have:∀ m:List V_,countGuess (m.map (moveOne b))=countGuess m:=by
     intro m
     induction m with
     | nil=>rfl
     | cons c m ih=>simp only[bZ,countGuess,ih];rfl
    exact this _
  ·exact⟨h3,rfl⟩
 exact⟨h1,h2,hm.1,by show _+((countGuess (moveConns l.conns b):Nat):Int)<=6;rw[hm.2];exact h4,h5⟩
def Aho {lg:List bN} {l:N_} (h:thr lg l) (b:Int):thr lg (transfer l b).1:=by
 unfold transfer;split
 ·exact h
 ·exact AeV _ _ (AgB h b)
def Ai3 {lg:List bN} {l:N_} (h:thr lg l) (n:Int):thr lg (actOf l n).1:=by
 unfold actOf;split
 ·exact AiJ h
 ·split
  ·exact Ai1 h
  ·split
   ·exact AiE h
   ·split
    ·exact Aho h 20
    ·exact Aho h 200
def Yy {lg:List bN} {l:N_} (h:thr lg l) (c:Int):∀ n,thr lg (stepR l c n).1
 | 0=>h
 | n+1=>by
  rw[stepR];split
  ·exact Ai3 h _
  ·exact Yy h c n
def Z0 {lg:List bN} {l:N_} (h:thr lg l) (c:Int):thr lg (stepLoad l c).1:=Yy h c 5
def Ae2 {lg:List bN}:∀ (cs:List Int) (l:N_),thr lg l->thr lg (cs.foldl stepTo l)
 | [],l,h=>h
 | c::cs,l,h=>Ae2 cs _ (Z0 h c)
def AeO {lg:List bN}:∀ (n:Nat) (l:N_),thr lg l->thr lg (runB n l)
 | 0,l,h=>h
 | n+1,l,h=>by
  rw[runB];split
  ·exact h
  ·split
   ·exact AeO n _ (Z0 h 0)
   ·exact h
def Ajb {lg:List bN} {l:N_} (h:thr lg l) (cs:List Int):thr lg (runLoad l cs):=AeO 1000 _ (Ae2 _ _ h)
def Agk {n:az} (h:smN n) (a:D_) (cs:List Int):thr n.log (startLoad n a cs).1:=by
 have hf:=Ry h a.host a false;have he:=Ta n a.host a false;unfold startLoad;split
 ·exact⟨hf.1,(λg hg=>nomatch hg),(λg hg=>nomatch hg),(by decide:(0:Int)+((0:Nat):Int)<=6),he⟩
 ·exact⟨hf.1,(λg hg=>nomatch hg),(λg hg=>nomatch hg),(by decide:(0:Int)+((0:Nat):Int)<=6),he⟩
def Zc {α:Type} (p:α->Bool) (f:α->Int):∀ (l:List α),(∀ x,x∈l->f x<=420)->sumIf p f l<=420*countIf p l
 | [],_=>Int.le_refl _
 | x::l,h=>by
  have h1:=Zc p f l λy hy=>h y (cJ _ hy)
  have h2:=h x cZ;simp only[sumIf,countIf];split<;>omega
def Ahs:∀ l:List V_,countIf (λc:V_=>c.guess) l=(countGuess l:Int)
 | []=>rfl
 | c::l=>by simp only[countIf,countGuess,Ahs l];split<;>omega
def SE {lg:List bN} {l:N_} (h:thr lg l):loaderWaste l<=2520/\isThrifty l=true:=by
 obtain⟨h1,h2,h3,h4,h5⟩:=h;have a1:=Zc (λg:au=>!g.used) (λg=>(g.bd.body.size:Int)+20) l.guesses λg hg=>by have:=h2 g hg;omega
 have a2:=Zc (λc:V_=>c.guess) (λc=>(c.bd.body.size:Int)+20) l.conns λc hc=>by have:=h3 c hc;omega
 rw[Ahs] at a2;have hw:loaderWaste l<=2520:=by unfold loaderWaste wasteOf connWaste;omega
 refine⟨hw,?_⟩;unfold isThrifty;rw[ee hw,ee h4];rfl
def Ac5 (l:N_):wrongGuesses l<=countIf (λg:au=>!g.used) l.guesses:=by
 unfold wrongGuesses;have:∀ (m:List au),countIf (λg:au=>!g.used&&(l.page.loaded && !isAsked l.page g.to)) m<=countIf (λg:au=>!g.used) m:=by
  intro m
  induction m with
  | nil=>exact Int.le_refl _
  | cons g m ih=>
   simp only[countIf];by_cases q:g.used=true
   ·simp only[q,Bool.not_true,Bool.false_and,cX,bC];omega
   ·simp only[Bool.not_eq_true] at q;simp only[q,Bool.not_false,Bool.true_and,aS];split<;>omega
 exact this _
def AhC {α:Type} (p:α->Bool) (a b:List α):countIf p (a++b)=countIf p a+countIf p b:=by
 induction a with
 | nil=>simp[countIf]
 | cons c a ih=>simp only[dp,countIf,ih];omega
def AhI {lg:List bN} {l:N_} (h:thr lg l):guessesSent l.net.log (lg.length:Int)=countIf (λs:bN=>s.guess) l.net.log-countIf (λs:bN=>s.guess) lg:=by
 obtain⟨_,_,_,_,r,hr⟩:=h;unfold guessesSent;rw[hr,I_ o_,AhC,show((lg.length:Int)).toNat=lg.length from o_,List.drop_left];omega
def wX2 {l:N_} (h:okX 1150 l):okW 0 l:=Jw h.1 o_
def YI:∀ l:List au,wasteOf l<=21*(szL Fl l:Int)
 | []=>Int.le_refl _
 | g::l=>by
  have:=YI l;rw[Ag];unfold wasteOf at *
  simp only[sumIf,Fl,szAddr,Ad];split<;>omega
def AaI:∀ l:List V_,connWaste l<=21*(szL GQ l:Int)
 | []=>Int.le_refl _
 | g::l=>by
  have:=AaI l;rw[Ag];unfold connWaste at *
  simp only[sumIf,GQ,szAddr,Ad];split<;>omega
def QZ {l:N_} (h:okW 0 l):loaderWaste l<=1000000000000/\l.guesses.length<=4194304/\l.conns.length<=1048576/\l.page.bh.length<=1000000000000/\l.page.bf.length<=1000000000000/\l.net.log.length<=100000000000:=by
 have q:=Aib h;obtain⟨hl,hw⟩:=h;obtain⟨_,_,⟨h6,h7,h8,h9⟩,h10⟩:=hl;have a1:=YI l.guesses;have a2:=AaI l.conns;have a3:=Ac AF l.page.bh;have a4:=Ac AO l.page.bf;unfold wS at hw;have a5:szL AF l.page.bh+szL AO l.page.bf<=Aj l.page:=by simp only[Aj];omega
 have a6:=Ac Ge l.net.log;have a7:=h10.2.2.2;exact⟨by unfold loaderWaste;omega,o_,h7,o_,o_,o_⟩
abbrev J8:Xct:=⟨[.u,.v (.el .int)],[.sl .int],λ(x:bz)=>0<=x.2.1/\x.2.1<=100,λ(x:bz) (y:W_)=>y.1.length<=100/\(y.1.length:Int)<=x.2.1⟩
abbrev Dg (c:Unit) (most:Int):LInv:=⟨[⟨.s,5,true,.sl .int⟩,⟨.s,6,true,.el .int⟩],λ_ (x:an)=>0<=x.2.1/\x.2.1<=most/\x.1.length+x.2.1<=most,λ(x:an)=>x.2.1.toNat⟩
def Akm:=Akp.X J8<|Xct.p (KP [0,1,4,5,6] [12]) (λ⟨c,most,_⟩=>lv [(3,Dg c most)]) Akp.2 func94 (by
 rintro⟨(c:PUnit),(most:Int),_⟩ hp;refine ho (.dr BX ((),most,()) λ(y1:B_)=>lpx (Dg c most) ([],(y1.1,())) λ(y2:an) bk2=>.br (decide (y2.2.1>0)) (.dr BX ((),(7:Int),()) λ(y4:B_)=>.ap (y2.1.length+[wr (y4.1-(1:Int))].length) 8<|.re (Value.int IntKind.i64 most)<|.bk (bk2 (y2.1++[wr (y4.1-(1:Int))],(wr (y2.2.1-(1:Int)),())))) (.lx J8 (y2.1,()))) ?_;refine CI trivial λ(y1:B_) i1=>Am ?_ λ(y2:an) i2=>Aa (λh3=>CI trivial λ(y4:B_) i4=>Ed ?_ λ_=>Ai<|AR ?_) (λh3=>lxY ?_)<;>(try simp only[std,Nat.reduceAdd,al,aw,aJ] at *)<;>(try simp(disch:=omega) only[FS] at *)<;>(first|omega|exact⟨o_,o_⟩|exact⟨o_,o_,o_⟩|exact⟨⟨o_,o_,o_⟩,o_⟩|skip))
abbrev W0:Fct:=⟨[.v (.sl .u8),.v (.el .int)],[.el .int],λ(x:an)=>x.1.length<=1000000000000000000,λ(x:an)=>(if x.2.1<3+(x.1.length:Int) / 12 then x.2.1 else 3+(x.1.length:Int) / 12,())⟩
def Ame:=Akm.a W0<|Fct.o (KP [0,1,4,5] [12]) Akm.2 func95 (by
 rintro⟨(b:List Int),(most:Int),_⟩ hp;refine ho (.ob ((12:Int)≠(0:Int))<|.br (decide (wr ((3:Int)+wr ((↑(List.length b):Int).tdiv (12:Int)))>most)) (.lf W0 (most,())) (.lf W0 (wr ((3:Int)+wr ((↑(List.length b):Int).tdiv (12:Int))),()))) ?_;refine Ab ?_ λ_=>Aa (λh2=>lfY ?_) (λh2=>lfY ?_)<;>(try simp only[std,Nat.reduceAdd] at *)<;>(try simp(disch:=omega) only[FS,A_] at *)<;>(try simp(disch:=omega) only[I_,J_])<;>(first|trivial|omega|grind[FS,A_,HO,G_,F_,maxLen]))
abbrev Lr:Xct:=⟨[.v (.sl .u8)],[.el .net,.el .addr,.sl .int,.sl .int],λ(x:W_)=>x.1.length<=1000000000000000000/\(∀ j,j<x.1.length->0<=x.1.getD j default/\x.1.getD j default<=255),λ(x:W_) (y:az×D_×(List Int)×(List Int)×Unit)=>okN y.1/\smN y.1/\szAddr y.2.1<=200/\y.2.2.1.length<=4/\y.2.2.2.1.length<=42⟩
def AlS:=Ame.X Lr<|Xct.o [0,2,3,4,5,6,7,8,9] Ame.2 func18 (by
 rintro⟨(b:List Int),_⟩ hp;refine ho (.ob (∀ (j:Nat),j<List.length (b,()).1->0<=List.getD b j default/\List.getD b j default<=255)<|.ob (List.length b<=1000000000000000000)<|.dr WE ((),()) λ(y3:bJ)=>.dr Np ((),()) λ(y4:aK)=>.dr Rh ((),()) λ(y5:W_)=>let E_:Out:=.cl W0 (b,(30:Int),()) λ(z2:B_)=>.dr J8 ((),wr ((12:Int)+z2.1),()) λ(y10:W_)=>.lx Lr (y3.1,y4.1,y5.1,y10.1,());.lp (Bool) (True) (λx=>True) λy6=>.br (y6) E_ E_) ?_;refine Ab ?_ λ_=>Ab ?_ λ_=>CI trivial λ(y3:bJ) i3=>CI trivial λ(y4:aK) i4=>CI trivial λ(y5:W_) i5=>KW trivial λy6 i6=>Aa (λh7=>Do ?_ λo8 z2 ez2=>FL ?_ λo9 (y10:W_) i10=>lxY ?_) (λh7=>Do ?_ λo11 z3 ez3=>FL ?_ λo12 (y13:W_) i13=>lxY ?_)<;>(try subst_vars)<;>(try simp only[std,Nat.reduceAdd] at *)<;>(first|exact hp.2|exact hp.1|skip)<;>(have hm:(0:Int)<=(if 30<3+(b.length:Int) / 12 then 30 else 3+(b.length:Int) / 12)/\(if 30<3+(b.length:Int) / 12 then 30 else 3+(b.length:Int) / 12)<=30:=by split<;>omega)<;>generalize (if 30<3+(b.length:Int) / 12 then 30 else 3+(b.length:Int) / 12)=q at *<;>have hw:IntKind.i64.wrap (12+q)=12+q:=FS o_ o_<;>simp only[hw] at *<;>(first|omega|exact⟨o_,o_⟩|exact⟨i3.1,i3.2,o_,o_,o_⟩|skip))
abbrev Rw:Xct:=⟨[.v (.sl .u8)],[.el .loader,.sl .int],λ(x:W_)=>x.1.length<=1000000000000000000/\(∀ j,j<x.1.length->0<=x.1.getD j default/\x.1.getD j default<=255),λ(x:W_) (y:de)=>okX 1150 y.1/\y.2.1.length<=20⟩
def AjN:=AlS.X Rw<|Xct.o [0,2,3,4,5] AlS.2 func102 (by
 rintro⟨(b:List Int),_⟩ hp;refine ho (.ob (∀ (j:Nat),j<List.length (b,()).1->0<=List.getD b j default/\List.getD b j default<=255)<|.ob (List.length b<=1000000000000000000)<|.dr N3 ((),()) λ(y3:aD)=>.dr J8 ((),(20:Int),()) λ(y5:W_)=>.lx Rw (y3.1,y5.1,())) ?_;refine Ab ?_ λ_=>Ab ?_ λ_=>CI trivial λ(y3:aD) i3=>FL ?_ λo4 (y5:W_) i5=>lxY ?_<;>(try simp only[std,Nat.reduceAdd] at *)<;>(first|exact hp.2|exact hp.1|exact⟨o_,o_⟩|exact⟨i3,o_⟩|skip))
abbrev Ik:Xct:=⟨[.v (.sl .u8)],[.el .loader],λ(x:W_)=>x.1.length<=1000000000000000000/\(∀ j,j<x.1.length->0<=x.1.getD j default/\x.1.getD j default<=255),λ(x:W_) (y:aD)=>okW 0 y.1⟩
def Aka:=AjN.X Ik<|Xct.o (KP [0,2,3,4] [13]) AjN.2 func27 (by
 rintro⟨(b:List Int),_⟩ hp;refine ho (.dr Rw (b,()) λ(y2:de)=>.ob ((2:Int)≠(0:Int))<|.br ((↑(List.length b):Int).tmod (2:Int)==(0:Int)) (.cl JM (y2.1,y2.2.1,()) λz2=>.lx Ik (z2.1,())) (.lx Ik (y2.1,()))) ?_;refine FL ?_ λo1 (y2:de) i2=>Ab ?_ λ_=>Aa (λh4=>Do ?_ λo5 z2 ez2=>lxY ?_) (λh4=>lxY ?_)<;>(try subst_vars)<;>(try simp only[std,Nat.reduceAdd] at *)<;>(first|exact hp|omega|exact⟨(Jw i2.1.1 o_).1,o_⟩|exact Aif (Jw i2.1.1 o_) _|exact wX2 i2.1|skip))
abbrev Rf:Fct:=⟨[.v (.el .net)],[.el .int],λ(x:bJ)=>x.1.log.length<=100000000000,λ(x:bJ)=>(countIf (λs=>s.guess) x.1.log,())⟩
def Alm:=Aka.a Rf<|Fct.o [1,2] Aka.2 func33 (by
 rintro⟨(n:az),_⟩ hp;refine ho (.cl Hk (n.log,()) λ(z2:B_)=>.lf Rf (z2.1,())) ?_;refine Ae ?_ λ_=>(lfY ?_)<;>(try simp only[std,Nat.reduceAdd] at *)<;>(try simp(disch:=omega) only[FS,A_] at *)<;>(try simp(disch:=omega) only[I_,J_])<;>(first|trivial|omega|grind[FS,A_,HO,G_,F_,maxLen]))
def lBytesT:Fct:=Ah2 [.sl .u8]
abbrev Es (b:(List Int)):LInv:=⟨[⟨.b,7,true,.el .loader⟩,⟨.s,9,true,.el .int⟩,⟨.b,3,true,.el .net⟩,⟨.s,6,true,.sl .int⟩],λ(z x:dL)=>x.2.2.1=z.2.2.1/\x.2.2.2.1=z.2.2.2.1/\0<=x.2.1/\x.2.1<=x.2.2.2.1.length/\okW (1200-x.2.1.toNat) x.1/\thr x.2.2.1.log x.1,λ(x:dL)=>x.2.2.2.1.length-x.2.1.toNat⟩
theorem k4_374:lBytesT.ok Tryz.prog 4:=Fct.p (KP [0,2,3,4,5,6,7,8,9,10,12,13] [15,36,65]) (λ⟨b,_⟩=>lv [(6,Es b)]) Alm.2 func4 (by
 rintro⟨(b:List Int),_⟩ hp;refine ho (let L_:Out:=.leaf (mkR lBytesT.rs (false,())) [] [];.cl Air (b,()) λz2=>.br (z2.1) (.leaf (mkR lBytesT.rs (true,())) [] []) (.ob (Lr.pre (b,()))<|.lp (az×D_×List Int×List Int×PUnit) (True) (Lr.is (b,())) λy3=>.cl Ho (y3.1,y3.2.1,y3.2.2.1,()) λz3=>lpx (Es b) (z3.1,((0:Int),(y3.1,(y3.2.2.2.1,())))) λ(y5:dL) bk5=>let E_:Out:=.cl JM (y5.1,y5.2.2.2.1,()) λz10=>.ob (Ik.pre (b,()))<|.lp aD (True) (Ik.is (b,())) λy21=>let H_:Out:=.cl C9 (y21.1,()) λ(z11:B_)=>.cl C9 (y21.1,()) λ(z12:B_)=>.br (z11.1==z12.1) (.cl Dm (y21.1,()) λ(z13:B_)=>.cl Dm (y21.1,()) λ(z14:B_)=>.br (z13.1==z14.1) (.cl PL (y21.1,()) λ(z15:B_)=>.cl PL (y21.1,()) λ(z16:B_)=>.br (z15.1==z16.1) (.cl GN (z10.1.net,(y5.2.2.1.log.length:Int),()) λ(z17:B_)=>.cl Rf (z10.1.net,()) λ(z18:B_)=>.cl Rf (y5.2.2.1,()) λ(z19:B_)=>.leaf (mkR lBytesT.rs (z17.1==wr (z18.1-z19.1),())) [] []) L_) L_) L_;.br (!z3.2.1) H_ (.cl Iu (z10.1,()) λz20=>.br (z20.1) H_ L_);.br (decide (y5.2.1<(y5.2.2.2.1.length:Int))) (.br (z3.2.1) (.ix y5.2.1 y5.2.2.2.1.length<|.cl DZ (y5.1,y5.2.2.2.1.getD y5.2.1.toNat default,()) λz4=>.cl Iu (z4.1,()) λz5=>.br (!z5.1) L_ (.cl C9 (z4.1,()) λ(z6:B_)=>.cl HQ () λ(z7:B_)=>.br (decide (z6.1>z7.1)) L_ (.cl Dm (z4.1,()) λ(z8:B_)=>.cl Hz (z4.1.guesses,()) λ(z9:B_)=>.br (decide (z8.1>z9.1)) L_ (.re (b)<|.re (Value.bool z3.2.1)<|.bk (bk5 (z4.1,(w1 y5.2.1,(y5.2.2.1,(y5.2.2.2.1,()))))))))) E_) E_)) ?_;refine Ae trivial λ_=>(Aa (λh1=>Fct.leafY ?_) λh1=>Ab ?_ λ_=>KW trivial λy3 i3=>Ae ?_ λ_=>Am ?_ λ(y5:dL) i5=>Aa (λh6=>Aa (λh7=>Ei ?_ λo8 o9=>Ae ?_ λ_=>Ae ?_ λ_=>Aa (λh12=>Fct.leafY ?_) λh12=>Ae ?_ λ_=>Ae trivial λ_=>Aa (λh14=>Fct.leafY ?_) λh14=>Ae ?_ λ_=>Ae ?_ λ_=>Aa (λh17=>Fct.leafY ?_) λh17=>Ai<|Ai<|AR ?_) λh7=>Ae ?_ λ_=>Ab ?_ λ_=>KW trivial λy21 i21=>Aa (λh22=>Ae ?_ λ_=>Ae ?_ λ_=>Aa (λh25=>Ae ?_ λ_=>Ae ?_ λ_=>Aa (λh28=>Ae ?_ λ_=>Ae ?_ λ_=>Aa (λh31=>Ae ?_ λ_=>Ae ?_ λ_=>Ae ?_ λ_=>Fct.leafY ?_) λh31=>Fct.leafY ?_) λh28=>Fct.leafY ?_) λh25=>Fct.leafY ?_) λh22=>Ae ?_ λ_=>Aa (λh36=>Ae ?_ λ_=>Ae ?_ λ_=>Aa (λh39=>Ae ?_ λ_=>Ae ?_ λ_=>Aa (λh42=>Ae ?_ λ_=>Ae ?_ λ_=>Aa (λh45=>Ae ?_ λ_=>Ae ?_ λ_=>Ae ?_ λ_=>Fct.leafY ?_) λh45=>Fct.leafY ?_) λh42=>Fct.leafY ?_) λh39=>Fct.leafY ?_) λh36=>Fct.leafY ?_) λh6=>Ae ?_ λ_=>Ab ?_ λ_=>KW trivial λy51 i51=>Aa (λh52=>Ae ?_ λ_=>Ae ?_ λ_=>Aa (λh55=>Ae ?_ λ_=>Ae ?_ λ_=>Aa (λh58=>Ae ?_ λ_=>Ae ?_ λ_=>Aa (λh61=>Ae ?_ λ_=>Ae ?_ λ_=>Ae ?_ λ_=>Fct.leafY ?_) λh61=>Fct.leafY ?_) λh58=>Fct.leafY ?_) λh55=>Fct.leafY ?_) λh52=>Ae ?_ λ_=>Aa (λh66=>Ae ?_ λ_=>Ae ?_ λ_=>Aa (λh69=>Ae ?_ λ_=>Ae ?_ λ_=>Aa (λh72=>Ae ?_ λ_=>Ae ?_ λ_=>Aa (λh75=>Ae ?_ λ_=>Ae ?_ λ_=>Ae ?_ λ_=>Fct.leafY ?_) λh75=>Fct.leafY ?_) λh72=>Fct.leafY ?_) λh69=>Fct.leafY ?_) λh66=>Fct.leafY ?_)<;>(try simp only[lBytesT,std,Nat.reduceAdd,szF,toF,eqF,mkF,heF] at *)<;>have hb:=Agf hp.1<;>(first|rfl|exact⟨o_,hb⟩|skip)<;>obtain⟨g1,g2,g3,g4,g5⟩:=i3<;>(have g6:=WD g1;have q1:=Aaw y3.2.2.1 (show szNet y3.1<=1048576 from o_) (show szAddr y3.2.1<=1048576 from o_);have q2:=Agk g2 y3.2.1 y3.2.2.1)<;>(first|exact⟨o_,o_,o_⟩|exact⟨o_,o_,q1,q2⟩|skip)<;>obtain⟨k1,k2,k3,k4,k5,k6⟩:=i5<;>(first|exact⟨o_,o_⟩|exact Jh k5.1|exact⟨(Jw (G:=1100) k5 (by rw[k2] at k4;omega)).1,by rw[k2];omega⟩|skip)<;>(have k7:y5.2.1.toNat<=42:=by rw[k2] at k4;omega)<;>(have s1:=ZW (Jw (G:=1200-(y5.2.1.toNat+1)+1) k5 o_) (y5.2.2.2.1.getD y5.2.1.toNat default);have s2:=Z0 k6 (y5.2.2.2.1.getD y5.2.1.toNat default);have s3:=SE s2;have s4:=QZ (Jw s1 (Nat.zero_le _));have s5:=Ac5 (stepLoad y5.1 (y5.2.2.2.1.getD y5.2.1.toNat default)).1;have r1:=Aif (Jw (G:=1100) k5 o_) y5.2.2.2.1;have r2:=Ajb k6 y5.2.2.2.1;have r3:=SE r2;have r4:=QZ r1;have r5:=AhI r2;try have u1:=QZ i21)<;>(first|omega|exact⟨s4.2.1,s4.2.2.1,s4.1⟩|exact⟨o_,s4.2.2.2.1,s4.2.2.2.2.1⟩|exact⟨r4.2.1,r4.2.2.1,r4.1⟩|exact r4.2.2.2.2.2|exact absurd trivial ‹_›|skip)<;>(try have u2:=QZ i51)<;>(have k8:y5.2.2.2.1.length<=42:=by rw[k2];exact g5)<;>(have k9:y5.2.2.1.log.length<=400:=by rw[k1];exact g1.2.2.2)<;>(have c1:=O_ (λs:bN=>s.guess) (runLoad y5.1 y5.2.2.2.1).net.log;have c2:=O_ (λs:bN=>s.guess) y5.2.2.1.log)<;>(first|omega|exact⟨o_,o_,o_⟩|exact Bool.noConfusion (s3.2.symm.trans ‹_›)|exact Bool.noConfusion (r3.2.symm.trans ‹_›)|(rw[r5,FS o_ o_,beq_self_eq_true];rfl)|(rw[FS o_ o_];exact⟨⟨k1,k2,o_,o_,by rw[show(y5.2.1+1).toNat=y5.2.1.toNat+1 from o_];exact s1,s2⟩,o_⟩)|skip))
def An8:=Alm.a lBytesT k4_374
section
open Go.ChangeShapes Go.WideShapes Go.ChangeAt Go.RowKit
theorem rfB:(Tryz.f4.params.toList.all λt=>Tryz.prog.readableRec t&&decide (t<Tryz.prog.types.size))=true:=by kernel_rfl
theorem rfC:Pn Tryz.prog tyOf Tryz.f4.params.toList [.sl .u8]=true:=by kernel_rfl
theorem rfD:Amb Tryz.prog tyOf [3,4,5,9,27,30,32,35,37,42,47,51,80,82,88,127,156,173,178,181,216,234,236,250,253,326,352,370]=true:=by kernel_rfl
theorem rowFacts:Agd Tryz.prog Tryz.f4 tyOf [3,4,5,9,27,30,32,35,37,42,47,51,80,82,88,127,156,173,178,181,216,234,236,250,253,326,352,370] [.sl .u8]=true:=by unfold Agd;rw[rfA,rfB,rfC,rfD];rfl
end
end Go.Proofs.YthpiiodbmkjmjaaGreatDoor.fnThrifty
