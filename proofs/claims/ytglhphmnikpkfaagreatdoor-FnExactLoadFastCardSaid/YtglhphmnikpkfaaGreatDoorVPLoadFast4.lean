/-
  Contracts of functions that the law of FnExactLoadFast reaches, part 4.
-/
import Derived.Test.YtglhphmnikpkfaaGreatDoorVPLoadFast3
namespace Go.Proofs.YtglhphmnikpkfaaGreatDoor.fnExactLoadFast
open Go.Proofs.YtglhphmnikpkfaaGreatDoor
open Go.D Go.Proofs.Tryz
set_option maxRecDepth 100000
set_option maxHeartbeats 2000000
set_option linter.defProp false
set_option linter.unusedVariables false
set_option linter.unusedSimpArgs false
def AkT:=Am9.a M6<|Fct.p (KP [2,3,4,5,6,7,9,11,13,14] [19,31,40,86]) (λ⟨p,a,_⟩=>λ|6=>some (DQ p a)|14=>some (DC p a)|_=>none) Am9.2 func313 (by
 rintro⟨(p:Sa_),(a:Sb_),_⟩ hp;refine ho (let q1_:=(⟨#[102,97,105,108,32]⟩:ByteArray);.cl fCopyPage (p,()) λz2=>.cl B1 (p,a,()) λz3=>.br (z3.1) (.cl Cs (a,()) λz4=>.ob (sameSize q1_ z4.1)<|.ob (R5.pre (z2.1,q1_++z4.1,()))<|.lt _ (R5.fn (z2.1,q1_++z4.1,())) λz5=>.lf M6 (z5.1.1,())) (.cl BP (p,a,()) λz6=>lpx (DQ p a) (z2.1,((0:Int),(default,(z6.1,())))) λ(y7:Sa_×Int×Sa_×List Sb_×PUnit) bk7=>let q3_:=({y7.1 with ran:=y7.1.ran++[y7.2.2.2.1.getD y7.2.1.toNat default]}:Sa_);let q2_:=inB y7.2.1 y7.2.2.2.1.length;let q0_:=y7.2.1.toNat<y7.2.2.2.1.length;.br (decide (y7.2.1<(y7.2.2.2.1.length:Int))) (.ob q2_<|.ob q0_<|.cl fHasAddr (y7.1.ran,y7.2.2.2.1.getD y7.2.1.toNat default,()) λz7=>.br (z7.1) (.ob (bk7 (y7.1,(w1 y7.2.1,(y7.2.2.1,(y7.2.2.2.1,())))))<|.ok) (.ob q2_<|.ob q0_<|.ob (True)<|.ob (Br (y7.1.ran.length+[y7.2.2.2.1.getD y7.2.1.toNat default].length) 32)<|.ob q2_<|.ob q0_<|.cl fModAt (q3_,y7.2.2.2.1.getD y7.2.1.toNat default,()) λ(z8:Int×PUnit)=>.ob (inB z8.1 y7.1.bh.length)<|.ob (z8.1.toNat<y7.1.bh.length)<|.ob q2_<|.ob q0_<|.cl Ay ((y7.1.bh.getD z8.1.toNat default).body,(y7.2.2.2.1.getD y7.2.1.toNat default).host,()) λz9=>.cl Db (q3_,()) λz10=>.cl Ck (y7.1.ba,z10.1,z9.2.1,()) λz11=>lpx (DC p a) (({y7.1 with ba:=z11.1,ran:=y7.1.ran++[y7.2.2.2.1.getD y7.2.1.toNat default]}:Sa_),((0:Int),(z11.2.2.1,(y7.2.2.2.1,(y7.2.2.1,()))))) λ(y27:Sa_×Int×List ByteArray×List Sb_×Sa_×PUnit) bk27=>.br (decide (y27.2.1<(y27.2.2.1.length:Int))) (.ob (inB y27.2.1 y27.2.2.1.length)<|.ob (y27.2.1.toNat<y27.2.2.1.length)<|.ob (R5.pre (y27.1,y27.2.2.1.getD y27.2.1.toNat default,()))<|.lt _ (R5.fn (y27.1,y27.2.2.1.getD y27.2.1.toNat default,())) λz12=>.ob (Value.int IntKind.i64 y7.2.1=Value.int IntKind.i64 y7.2.1)<|.ob (bk27 (z12.1.1,(w1 y27.2.1,(y27.2.2.1,(y27.2.2.2.1,(y27.2.2.2.2.1,()))))))<|.ok) (.ob (bk7 (y27.1,(w1 y7.2.1,(y27.2.2.2.2.1,(y27.2.2.2.1,())))))<|.ok))) (.lf M6 (y7.1,())))) ?_;refine Ae ?_ λ_=>(Ae ?_ λ_=>(Ab (λh3=>Ae ?_ λ_=>(Aa ?_ λ_=>Aa trivial λ_=>DU (lfY ?_))) (λh3=>Ae ?_ λ_=>(Ai ?_ λ(y7:Sa_×Int×Sa_×List Sb_×PUnit) i7=>Ab (λh8=>Aa ?_ λ_=>Aa ?_ λ_=>Ae ?_ λ_=>(Ab (λh12=>Aa ?_ λ_=>trivial) (λh12=>Aa ?_ λ_=>Aa ?_ λ_=>Aa trivial λ_=>Aa ?_ λ_=>Aa ?_ λ_=>Aa ?_ λ_=>Ae ?_ λ_=>(Aa ?_ λ_=>Aa ?_ λ_=>Aa ?_ λ_=>Aa ?_ λ_=>Ae ?_ λ_=>(Ae ?_ λ_=>(Ae ?_ λ_=>(Ai ?_ λ(y27:Sa_×Int×List ByteArray×List Sb_×Sa_×PUnit) i27=>Ab (λh28=>Aa ?_ λ_=>Aa ?_ λ_=>Aa trivial λ_=>DU (Aa rfl λ_=>Aa ?_ λ_=>trivial)) (λh28=>Aa ?_ λ_=>trivial)))))))) (λh8=>lfY ?_)))))
 all_goals have hq:okEnt p a:=hp
 all_goals obtain⟨p1,p2,p3,p4,p5,p6⟩:=(show okEnt p a from hp)
 all_goals
  have hfa:=NF a;try simp only[DC,DQ,fCopyPage,M6,Cs,B1,fHasAddr,fModAt,Ay,BP,Ck,R5,Db,std,Nat.reduceAdd,Ix,OQ] at *
 all_goals first|trivial|omega|exact p2|(unfold sameSize;rw[show ByteArray.size ⟨#[102,97,105,108,32]⟩=5 from rfl];omega)|exact Va p a|(unfold enter;rw[Qa1 ‹_›])|skip
 all_goals (obtain⟨⟨i1,e1⟩,e2⟩:=i7;have em:=(FW i1).1;have es:=(FW i1).2;have i0:=i1.1;have iz:=Mk i1 hq)
 all_goals try simp only[e2,em,es,Wa] at *
 all_goals first|trivial|omega|skip
 all_goals try (have hmem:=A7 (l:=reachOf p a) (i:=y7.2.1.toNat) o_;have hfnd:=Ko ‹_› hmem;have hfi:=B7 p.bh ((reachOf p a).getD y7.2.1.toNat default))
 all_goals first|exact⟨hfnd,hfi.1⟩|exact⟨o_,p6⟩|exact⟨p2.2.1 _ o_,H4 hmem p2.2.2.1⟩|exact⟨o_,o_,Qd8 (IX p _).1 (by decide),iz.2.2.2.1⟩|exact U1 _ _|(rw[Ag o_];have e:=JG i1 o_;unfold enter1 at e;rw[Qa1 ‹_›] at e;exact⟨⟨⟨e,e1⟩,trivial⟩,o_⟩)|(unfold enter;rw[Qa3 (by intro q;exact tf q ‹_›)];have e:=i1.2.2.1;rw[KU o_] at e;exact e)|skip
 all_goals (obtain⟨⟨j1,j2,j3⟩,j4⟩:=i27;simp only[j1,j2,j4] at *;have j0:=j3.1;have hgl:=Qd8 (Po y7.1.ba (sheetsOf p.bf) (entLines p ((reachOf p a).getD y7.2.1.toNat default))) (IX p _).2;rw[show runScript y7.1.ba (sheetsOf p.bf) (entLines p ((reachOf p a).getD y7.2.1.toNat default))=entRun p y7.1 ((reachOf p a).getD y7.2.1.toNat default) from rfl] at hgl)
 all_goals first|exact⟨j0,‹_›⟩|(rw[Ag o_];simp only[Qe8,true_and];exact⟨Qv j3 ‹_›,o_⟩)|skip
 all_goals
  have e:=N6 j3 o_;have em2:=FW i1;have e5:y27.1=enter1 p y7.1 ((reachOf p a).getD y7.2.1.toNat default):=by rw[e];unfold enter1;rw[Qa3 (by intro q;exact tf q ‹_›)];simp only[em2.1,em2.2]
 all_goals rw[Ag o_,e5]
 all_goals exact⟨⟨⟨JG i1 o_,by first|trivial|assumption⟩,by first|trivial|assumption⟩,o_⟩)
def AdY (g:Sg_->Bool):∀ l:List Sg_,wtL g l<=szL Az l
 | []=>Qa7 _
 | m::l=>by have:=AdY g l;rw[wtL,Av];split<;>simp only[Az]<;>omega
def AnO (p:Sa_):totV p []<=szL Az p.bh:=by
 unfold totV;rw[Qn,Qb7,Qd9];exact AdY _ _
def okTail (p:Sa_):Prop:=okParse p/\okMb p/\szL Az p.bh<=50000000000/\∀ i,i<p.bg.length->(p.bg.getD i default).host.size<=4000000000
def Ow {p:Sa_} (h:okTail p) {i:Nat} (hi:i<p.bg.length):okEnt p (p.bg.getD i default):=by
 obtain⟨⟨⟨h1,h1a,h1b,h1c,h1e⟩,h1d,h1f⟩,h2,h2a,h3⟩:=h;have hpp:=Es p;have ht:=AnO p;have hm:=Ac Az p.bh;have ha:=DZ szAddr hi;exact⟨h1,⟨o_,h2,h3 i hi,o_,Qa7 _⟩,o_,by unfold szBuilder;omega,h1d,h1f⟩
def defSlot (p:Sa_):Sn_:=p.bf.getD ((deferredSlots p).getD p.bm.toNat default).toNat default
def entNow (p:Sa_):Sb_:=p.bg.getD p.bq.toNat default
def tailDefer (p:Sa_):Sa_×Bool :=
 if(defSlot p).done=false\/stylesReady p.bf=false then(p,false)
 else if(defSlot p).code=1 then({ runCode p (defSlot p).body false with bm:=p.bm+1 },true)
 else({ p with bm:=p.bm+1 },true)
def tailEnter (p:Sa_):Sa_×Bool :=
 if graphReady p (entNow p)=false\/stylesReady p.bf=false then(p,false)
 else({ enter p (entNow p) with bq:=p.bq+1 },true)
def stepTail (p:Sa_):Sa_×Bool :=
 if isParsed p=false\/p.loaded=true\/p.bm<0\/p.bq<0 then(p,false)
 else if p.bm<(deferredSlots p).length then tailDefer p
 else if p.bq<p.bg.length then tailEnter p
 else if 0<(openSlots p).length\/0<(openMods p).length then(p,false)
 else({ say p ⟨#[108,111,97,100]⟩ with loaded:=true },true)
def If (p:Sa_) (h:0<=p.bm) (h2:p.bm<(deferredSlots p).length):0<=(deferredSlots p).getD p.bm.toNat default/\(deferredSlots p).getD p.bm.toNat default<p.bf.length:=by
 have hm:=A7 (l:=deferredSlots p) (i:=p.bm.toNat) o_;have:=FH (λs:Sn_=>decide (s.mode=4)) p.bf 0 _ hm;omega
def M3 (p:Sa_):p.bf.getD ((deferredSlots p).getD p.bm.toNat default).toNat default=defSlot p:=rfl
def N2 (p:Sa_):p.bg.getD p.bq.toNat default=entNow p:=rfl
def BN:Fct:=⟨[.v (.el .page)],[.el .page,.el .bool],λ(x_:Sa_×Unit)=>okTail x_.1,λ(x_:Sa_×Unit)=>((stepTail x_.1).1,(stepTail x_.1).2,())⟩
def AjB:=AkT.a BN<|Fct.o (KP [1,2,3,4,5,6,7] [26,34,51,59,78,93,112]) AkT.2 func248 (by
 rintro⟨(p:Sa_),_⟩ hp;refine ho (let q3_:=(⟨#[108,111,97,100]⟩:ByteArray);.cl fCopyPage (p,()) λz2=>let q0_:Out:=.lf BN (z2.1,false,());.cl C9 (p,()) λz3=>.br (!z3.1) q0_ (.br (p.loaded) q0_ (.br (decide (p.bm<0)) q0_ (.br (decide (p.bq<0)) q0_ (.cl Bh (p,()) λ(z4:List Int×PUnit)=>let q2_:=p.bf.getD (z4.1.getD p.bm.toNat default).toNat default;let q1_:=0<=z4.1.getD p.bm.toNat default/\z4.1.getD p.bm.toNat default<(p.bf.length:Int);.br (decide (p.bm<(z4.1.length:Int))) (.ob (inB p.bm z4.1.length)<|.ob (p.bm.toNat<z4.1.length)<|.ob q1_<|.br (!q2_.done) q0_ (.cl AD (p,()) λz5=>.br (!z5.1) q0_ (.ob q1_<|.br (q2_.code==1) (.ob q1_<|.cl BO (p,q2_.body,false,()) λz6=>.lf BN ({z6.1 with bm:=w1 p.bm},true,())) (.lf BN ({z2.1 with bm:=w1 p.bm},true,()))))) (.br (decide (p.bq<(p.bg.length:Int))) (.ob (inB p.bq p.bg.length)<|.cl Bp (p,p.bg.getD p.bq.toNat default,()) λz7=>.br (!z7.1) q0_ (.cl AD (p,()) λz8=>.br (!z8.1) q0_ (.cl M6 (p,p.bg.getD p.bq.toNat default,()) λz9=>.lf BN ({z9.1 with bq:=w1 p.bq},true,())))) (.cl Bv (p,()) λ(z10:List Int×PUnit)=>.br (decide ((z10.1.length:Int)>0)) q0_ (.cl Cc (p,()) λ(z11:List Int×PUnit)=>.br (decide ((z11.1.length:Int)>0)) q0_ (.ob (R5.pre (z2.1,q3_,()))<|.lt _ (R5.fn (z2.1,q3_,())) λz12=>.lf BN ({z12.1.1 with loaded:=true},true,())))))))))) ?_;refine Ae ?_ λ_=>(Ae trivial λ_=>(Ab (λh2=>lfY ?_) (λh2=>Ab (λh3=>lfY ?_) (λh3=>Ab (λh4=>lfY ?_) (λh4=>Ab (λh5=>lfY ?_) (λh5=>Ae ?_ λ_=>(Ab (λh7=>Aa ?_ λ_=>Aa ?_ λ_=>Aa ?_ λ_=>Ab (λh11=>lfY ?_) (λh11=>Ae ?_ λ_=>(Ab (λh13=>lfY ?_) (λh13=>Aa ?_ λ_=>Ab (λh15=>Aa ?_ λ_=>Ae ?_ λ_=>(lfY ?_)) (λh15=>lfY ?_))))) (λh7=>Ab (λh18=>Aa ?_ λ_=>Ae ?_ λ_=>(Ab (λh21=>lfY ?_) (λh21=>Ae ?_ λ_=>(Ab (λh23=>lfY ?_) (λh23=>Ae ?_ λ_=>(lfY ?_)))))) (λh18=>Ae ?_ λ_=>(Ab (λh26=>lfY ?_) (λh26=>Ae ?_ λ_=>(Ab (λh28=>lfY ?_) (λh28=>Aa trivial λ_=>DU (lfY ?_))))))))))))))
 all_goals have hq:okTail p:=hp
 all_goals obtain⟨⟨⟨hp1,hp2,hp3,hp4,hp9⟩,hp8,hp5⟩,hp6,hp10,hp7⟩:=(show okTail p from hp)
 all_goals
  have hbb:szBuilder p.ba<=2000000000:=by(unfold szBuilder;omega)
  have hpp:=Es p;have hsl:=Ac AP p.bf;have hml:=Ac Az p.bh;have hel:=Ac szAddr p.bg;have hdl:(deferredSlots p).length<=p.bf.length:=D1 _ _ _;try simp only[Hv] at *
  try simp only[fCopyPage,Bh,M6,Bp,C9,Cc,Bv,BO,R5,BN,AD,std,Nat.reduceAdd,M3,N2] at *
 all_goals first|trivial|omega|skip
 all_goals
  have hds:0<=p.bm->p.bm<(deferredSlots p).length->(defSlot p).body.size<=4200000000:=λa b=>hp5 _ (by have:=If p a b;omega)
  have hes:0<=p.bq->p.bq<p.bg.length->okEnt p (entNow p):=λa b=>Ow hq o_
 all_goals first|exact If p ‹_› ‹_›|exact⟨hp1,o_,o_,hds ‹_› ‹_›,hp5⟩|exact hes ‹_› ‹_›|exact(hes ‹_› ‹_›).2.1|skip
 all_goals unfold stepTail
 all_goals repeat first|rw[Qa1 (by first|assumption|omega|exact .inl ‹_›|exact .inr ‹_›|exact .inr (.inl ‹_›)|exact .inr (.inr (.inl o_))|exact .inr (.inr (.inr o_))|exact .inl o_|exact .inr o_)]|rw[Qa3 (by first|omega|(rintro(q|q|q|q)<;>first|omega|exact tf ‹_› q|exact tf q ‹_›)|(rintro(q|q)<;>first|omega|exact tf ‹_› q))]|unfold tailDefer|unfold tailEnter
 all_goals first|exact⟨rfl,rfl⟩|(rw[Ag o_];exact⟨rfl,rfl⟩))
def undS:List Sn_->Nat
 | []=>0
 | s::l=>(if s.done=true then 0 else 1)+undS l
def undM:List Sg_->Nat
 | []=>0
 | m::l=>(if m.done=true then 0 else 1)+undM l
def nrL (r:List Sb_):List Sg_->Nat
 | []=>0
 | m::l=>(if inL r m.to=true then 0 else szAddr m.to+1)+nrL r l
def Lf:∀ l k:List Sn_,undS (l++k)=undS l+undS k
 | [],k=>(Qd9 _).symm
 | s::l,k=>by rw[Qe6,undS,undS,Lf l k];omega
def Ll:∀ l k:List Sg_,undM (l++k)=undM l+undM k
 | [],k=>(Qd9 _).symm
 | s::l,k=>by rw[Qe6,undM,undM,Ll l k];omega
def Pf (r:List Sb_):∀ l k:List Sg_,nrL r (l++k)=nrL r l+nrL r k
 | [],k=>(Qd9 _).symm
 | s::l,k=>by rw[Qe6,nrL,nrL,Pf r l k];omega
def U0 (r:List Sb_) (b:Sb_):∀ l:List Sg_,nrL (r++[b]) l<=nrL r l
 | []=>Qa7 _
 | m::l=>by
  have:=U0 r b l;rw[nrL,nrL,IU];cases inL r m.to with
  | true=>rw[Bool.true_or,Qa1 rfl];omega
  | false=>
   rw[Bool.false_or,Qa3 (show ¬ false=true by decide)];split<;>omega
def TL (r:List Sb_) (b:Sb_) (hb:inL r b=false):∀ (l:List Sg_) (i:Nat),i<l.length->(l.getD i default).to=b->nrL (r++[b]) l+szAddr b+1<=nrL r l
 | [],i,h,_=>absurd h (Nat.not_lt_zero _)
 | m::l,0,_,he=>by
  have he:m.to=b:=he;have:=U0 r b l;rw[nrL,nrL,he,IU,hb,Si,Qf1 rfl,Bool.false_or,Qa1 rfl,Qa3 (by decide)];omega
 | m::l,i+1,h,he=>by
  have ih:=TL r b hb l i (by simpa using h) he;rw[nrL,nrL,IU];cases inL r m.to with
  | true=>rw[Bool.true_or,Qa1 rfl];omega
  | false=>
   rw[Bool.false_or,Qa3 (show ¬ false=true by decide)];split<;>omega
def nodeP (b:Se_):Nat:=szL szNode b.bi+4000010*(40-b.bi.length)
def openP (b:Se_):Nat:=b.bl.length+(40-b.bi.length)
def slotP (l:List Sn_):Nat:=szL AP l+400*undS l+500000800*(20-l.length)
def entP (l:List Sb_):Nat:=szL szAddr l+100*(20-l.length)
def modP (l:List Sg_) (n:Nat):Nat:=szL Az l+500*undM l+600*(20-n)
def logP (l:List ByteArray):Nat:=szL Af l+200*(40-l.length)
def ranP (l:List Sg_) (r:List Sb_) (n:Nat):Nat:=szL szAddr r+nrL r l+100*(20-n)
def okQ (q:List Sh_) (Q:Nat):Prop:=(∀ t,t∈q->szToken t<=4000000)/\szL szToken q<=Q
def okB (b:Se_):Prop:=nodeP b<=200000000/\openP b<=3000000
def okS (l:List Sn_):Prop:=slotP l<=13000000000/\∀ s,s∈l->s.body.size<=2000000
def okE (l:List Sg_) (e r:List Sb_) (M R:Nat):Prop:=entP e<=3000000/\modP l e.length<=M/\ranP l r e.length<=R/\∀ m,m∈l->m.body.size<=2000000
def okLg (g:List ByteArray):Prop:=logP g<=3000000
def okCm (p:Sa_):Prop:=szPolicy p.bj+szAddr p.addr<=4000000/\p.tok.rest.size<=4000000
def okAll (p:Sa_) (Q M R:Nat):Prop:=okQ p.bn Q/\okB p.ba/\okS p.bf/\okE p.bh p.bg p.ran M R/\okLg p.log/\okCm p
def PQ {q:List Sh_} {Q Q':Nat} (h:okQ q Q) (hq:Q<=Q'):okQ q Q':=⟨h.1,Qd8 h.2 hq⟩
def Fa {p:Sa_} {Q Q' M R:Nat} (h:okAll p Q M R) (hq:Q<=Q'):okAll p Q' M R:=⟨PQ h.1 hq,h.2⟩
def Af6 {b:Se_} {t:Sh_} (h:okB b) (ht:szToken t<=4000000):okB (addToken b t).1:=by
 obtain⟨h1,h2⟩:=h;unfold addToken;split
 ·have:=Kc b t.name _ (Qa7 _);refine⟨h1,?_⟩;unfold openP at *
  show(closeN b t.name b.bl.length).length+(40-b.bi.length)<=_;omega
 ·split
  ·rename_i hc;have hc:=hc.1;have h0:szL szNode []=0:=rfl;have h3:szL Bm []=0:=rfl;have h4:ByteArray.size ⟨#[]⟩=0:=rfl;split
   ·refine⟨?_,?_⟩
    ·unfold nodeP at *
     dsimp only;rw[C4,Av,h0,Qa4,Qd1];simp only[szNode,szToken,h4] at *;omega
    ·unfold openP at *
     dsimp only;rw[Qa4,Qd1];split
     ·omega
     ·rw[Qa4,Qd1];omega
   ·refine⟨?_,?_⟩
    ·unfold nodeP at *
     dsimp only;rw[C4,Av,h0,Qa4,Qd1];simp only[szNode,szToken,h4,h3] at *;omega
    ·unfold openP at *
     dsimp only;rw[Qa4,Qd1];omega
  ·exact⟨h1,h2⟩
def Ue {b:Se_} (l:List Sm_) (x:Sr_) (h:okB b):okB (runLine b l x).1:=by
 unfold runLine;split
 ·exact h
 ·split
  ·dsimp only;split
   ·rename_i hc;obtain⟨c1,c2,c3⟩:=hc;obtain⟨h1,h2⟩:=h;have:=Cn c3;have h0:szL szNode []=0:=rfl;have h3:szL Bm []=0:=rfl;have h4:ByteArray.size ⟨#[]⟩=0:=rfl;refine⟨?_,?_⟩
    ·unfold nodeP at *
     dsimp only;rw[C4,Av,h0,Qa4,Qd1];simp only[szNode,h4,h3] at *;omega
    ·unfold openP at *
     dsimp only;rw[Qa4,Qd1];omega
   ·exact h
  ·split
   ·exact h
   ·split
    ·exact h
    ·split<;>exact h
def Mu (l:List Sm_):∀ (r:List Sr_) (b:Se_) (w:ByteArray) (g:List ByteArray),okB b->okB (runLines l r b w g).1
 | [],b,w,g,h=>h
 | x::r,b,w,g,h=>by rw[runLines];exact Mu l r _ _ _ (Ue l x h)
def Ab6 {b:Se_} {l:List Sm_} {x:Sr_} (hl:okSheets l) (hb:b.bi.length<=9000000000000000000) (hx:x.text.size<=60):(runLine b l x).2.2.size<=199:=by
 have h0:ByteArray.size ⟨#[]⟩=0:=rfl;have hc:=K1 x.text b.bi;have hk:=Of hl x.text;have f1:=Mo (n:=countName x.text b.bi) o_ o_;have f2:=Mo (n:=colorOf l x.text) hk.1 hk.2;have s1:ByteArray.size ⟨#[99,111,117,110,116,32]⟩=6:=rfl;have s2:ByteArray.size ⟨#[32]⟩=1:=rfl;have s3:ByteArray.size ⟨#[108,111,111,107,32]⟩=5:=rfl;have s4:ByteArray.size ⟨#[115,97,121,32]⟩=4:=rfl;unfold runLine;split
 ·dsimp only;omega
 ·split
  ·dsimp only;omega
  ·split
   ·dsimp only;rw[Qb3,Qb3,Qb3];omega
   ·split
    ·dsimp only;rw[Qb3,Qb3,Qb3];omega
    ·split
     ·dsimp only;rw[Qb3];omega
     ·dsimp only;omega
def LW (l:List Sm_) (hl:okSheets l):∀ (r:List Sr_) (b:Se_) (w:ByteArray) (g:List ByteArray),okB b->(∀ x,x∈r->x.text.size<=60)->(∀ s,s∈g->s.size<=199)->∀ s,s∈(runLines l r b w g).2.2->s.size<=199
 | [],b,w,g,_,_,hg=>hg
 | x::r,b,w,g,hb,hr,hg=>by
  rw[runLines];have hn:b.bi.length<=9000000000000000000:=by have:=Ac szNode b.bi;have h1:=hb.1;unfold nodeP at h1;omega
  have hx:=Ab6 hl hn (hr x Qd7);refine LW l hl r _ _ _ (Ue l x hb) (λy hy=>hr y (Qc4 _ hy)) λs hs=>?_
  split at hs
  ·exact hg s hs
  ·rcases Qb8.1 hs with hs|hs
   ·exact hg s hs
   ·rw[List.mem_singleton] at hs;rw[hs];exact hx
def Nc:∀ (l g:List ByteArray),(∀ s,s∈l->s.size<=199)->okLg g->okLg (addLog g l)
 | [],g,_,h=>by rw[GD];exact h
 | x::l,g,hl,h=>by
  rw[addLog];split
  ·refine Nc l _ (λs hs=>hl s (Qc4 _ hs)) ?_;have:=hl x Qd7;have h0:szL Af []=0:=rfl;unfold okLg logP at *
   rw[C4,Av,h0,Qa4,Qd1];simp only[Af] at *;omega
  ·exact h
def ZW {p:Sa_} {Q M R:Nat} (h:okAll p Q M R) {s:ByteArray} (hs:s.size<=199):okAll (say p s) Q M R:=by
 obtain⟨h1,h2,h3,h4,h5,h6⟩:=h;have e:=Nc [s] p.log (λx hx=>by rw[List.mem_singleton] at hx;rw[hx];exact hs) h5;unfold say;split
 ·rename_i hc;rw[addLog,Qa1 hc,GD] at e;exact⟨h1,h2,h3,h4,e,h6⟩
 ·exact⟨h1,h2,h3,h4,h5,h6⟩
def Oy (s:ByteArray):∀ x,x∈(parseScript s).1->x.text.size<=60:=by
 intro x hx;unfold parseScript at hx;split at hx
 ·cases hx
 ·split at hx
  ·rename_i hc;obtain⟨w,hw,rfl⟩:=Qg6.1 hx;have:=hc.2;rw[allOk8,Qc5] at this;exact Ni w _ _ (this w hw)
  ·cases hx
def Y7 {p:Sa_} {Q M R:Nat} (h:okAll p Q M R) (c:ByteArray) (w:Bool):okAll (runCode p c w) (Q+370) M R:=by
 obtain⟨h1,h2,h3,h4,h5,h6⟩:=h;unfold runCode;split
 ·refine⟨?_,Mu _ _ _ _ _ h2,h3,h4,Nc _ _ (LW _ (ET _).2 _ _ _ _ h2 (Oy c) λs hs=>by cases hs) h5,h6⟩;dsimp only;split
  ·have ht:=G6 (rsOf p c).2.1;have hr:=(Xo p c).2.1;refine⟨λt ht2=>?_,?_⟩
   ·rcases Qb8.1 ht2 with q|q
    ·have hg:=HS szToken q;omega
    ·exact h1.1 t q
   ·rw[C4];have:=h1.2;omega
  ·exact PQ h1 o_
 ·exact⟨PQ h1 o_,h2,h3,h4,Nc _ _ (λs hs=>by rw[List.mem_singleton] at hs;rw[hs];decide) h5,h6⟩
def FA (s b:ByteArray):szAddr (parseAddr s b).1<=16:=by
 unfold parseAddr;split
 ·rename_i h;rw[Qa2] at h;have h1:=Cn h.1;have h2:=Cn h.2;simp only[szAddr];omega
 ·decide
def Wo (p:Sa_) (m:Int) (to d:ByteArray) (n:Int):AP (newSlot p m to d n)<=16+d.size/\(newSlot p m to d n).body.size=0:=by
 have h:=FA to p.addr.host;have h4:ByteArray.size ⟨#[]⟩=0:=rfl;unfold newSlot;split
 ·exact⟨by simp only[rawSlot,AP,h4];omega,h4⟩
 ·exact⟨by simp only[AP,h4];omega,h4⟩
def Pj {p:Sa_} {Q M R:Nat} (h:okAll p Q M R) (m:Int) (to d:ByteArray) (n:Int) (hd:d.size<=200000000):okAll (addSlot p m to d n).1 Q M R:=by
 obtain⟨h1,h2,h3,h4,h5,h6⟩:=h;unfold addSlot;split
 ·rename_i hc;have hn:=Wo p m to d n;refine⟨h1,h2,⟨?_,λs hs=>?_⟩,h4,h5,h6⟩
  ·have h0:szL AP []=0:=rfl;have hu:undS [newSlot p m to d n]<=1:=by rw[undS,undS];split<;>omega
   have h7:=h3.1;unfold slotP at *
   dsimp only;rw[C4,Av,h0,Lf,Qa4,Qd1];omega
  ·rcases Qb8.1 hs with hs|hs
   ·exact h3.2 s hs
   ·rw[List.mem_singleton] at hs;rw[hs,hn.2];decide
 ·exact⟨h1,h2,h3,h4,h5,h6⟩
def AaC (p:Sa_) (a:Sb_):(newMod p a).to=a/\(newMod p a).body.size=0:=by
 unfold newMod;split<;>exact⟨rfl,rfl⟩
def Xk {α:Type} (f:α->Nat) (l:List α) (i:Nat):szL f (l.take i)+szL f (l.drop i)=szL f l:=by
 rw[<-C4,Qd2]
def YG (l:List Sg_) (i:Nat):undM (l.take i)+undM (l.drop i)=undM l:=by rw[<-Ll,Qd2]
def AdI (r:List Sb_) (l:List Sg_) (i:Nat):nrL r (l.take i)+nrL r (l.drop i)=nrL r l:=by rw[<-Pf,Qd2]
def Adp (p:Sa_) (a:Sb_):szL Az (askModule p a).bh<=szL Az p.bh+szAddr a+1/\undM (askModule p a).bh<=undM p.bh+1/\nrL p.ran (askModule p a).bh<=nrL p.ran p.bh+szAddr a+1/\(∀ m,m∈(askModule p a).bh->m∈p.bh\/m.body.size=0)/\askModule p a={ p with bh:=(askModule p a).bh }:=by
 unfold askModule;split
 ·exact⟨o_,o_,o_,λm h=>.inl h,rfl⟩
 ·obtain⟨n1,n2⟩:=AaC p a;have e1:=Xk Az p.bh (askFrom a p.bh);have e2:=YG p.bh (askFrom a p.bh);have e3:=AdI p.ran p.bh (askFrom a p.bh);refine⟨?_,?_,?_,λm h=>?_,rfl⟩
  ·dsimp only;rw[C4,Av];simp only[Az,n1,n2] at *;omega
  ·dsimp only;rw[Ll,undM];split<;>omega
  ·dsimp only;rw[Pf,nrL,n1];split<;>omega
  ·rcases Qb8.1 h with h|h
   ·exact .inl (List.mem_of_mem_take h)
   ·rcases Qd6.1 h with h|h
    ·rw[h];exact .inr n2
    ·exact .inl (List.mem_of_mem_drop h)
def Abi {p:Sa_} {Q M R:Nat} (h:okAll p Q M R) (to:ByteArray):okAll (addEntry p to) Q M R:=by
 unfold addEntry;split
 ·rename_i hc;obtain⟨h1,h2,h3,⟨h4,h7,h8,h9⟩,h5,h6⟩:=h;obtain⟨a1,a2,a3,a4,a5⟩:=Adp p (parseAddr to p.addr.host).1;have ha:=FA to p.addr.host;have h0:szL szAddr []=0:=rfl;rw[a5];refine⟨h1,h2,h3,⟨?_,?_,?_,λm hm=>?_⟩,h5,h6⟩
  ·unfold entP at *
   rw[C4,Av,h0,Qa4,Qd1];omega
  ·unfold modP at *
   dsimp only;rw[Qa4,Qd1];omega
  ·unfold ranP at *
   dsimp only;rw[Qa4,Qd1];omega
  ·rcases a4 m hm with hm|hm
   ·exact h9 m hm
   ·omega
 ·exact h
def WF {p:Sa_} {Q M R:Nat} (h:okAll p Q M R) (t:Sh_) (n:Int) (ht:szToken t<=4000000):okAll (element p t n) Q M R:=by
 have hd:=A3 t.bo ⟨#[100,105,103,101,115,116]⟩;have hs:szL Bm t.bo<=szToken t:=by simp only[szToken];omega
 unfold element;split
 ·exact Pj h _ _ _ _ o_
 ·split
  ·exact Pj h _ _ _ _ o_
  ·exact h
def X3 {p:Sa_} {Q M R:Nat} (h:okAll p Q M R) (n:Int):okAll (script p n) Q M R:=by
 have hd:=A3 (p.ba.bi.getD n.toNat default).bo ⟨#[100,105,103,101,115,116]⟩;have hs:szL Bm (p.ba.bi.getD n.toNat default).bo<=200000000:=by
  by_cases hn:n.toNat<p.ba.bi.length
  ·have:=Kd p.ba.bi n.toNat hn;have h2:=h.2.1.1;unfold nodeP at h2;omega
  ·rw[Qb2,List.getElem?_eq_none o_];exact Nat.zero_le _
 unfold script;split
 ·split
  ·exact h
  ·exact h
 ·split
  ·exact Pj h _ _ _ _ o_
  ·split
   ·exact Abi h _
   ·exact Pj h _ _ _ _ o_
def Ac1 {p:Sa_} {Q M R:Nat} (h:okAll p Q M R) (hq:0<p.bn.length):okAll (taken p (p.bn.getD 0 default)) Q M R:=by
 obtain⟨h1,h2,h3,h4,h5,h6⟩:=h;have ht:=h1.1 _ (A7 hq);have hz:=(PV p hq).2;exact⟨⟨λt hm=>h1.1 t (List.mem_of_mem_drop hm),by have:=h1.2;show szL szToken (p.bn.drop 1)<=Q;omega⟩,Af6 h2 ht,h3,h4,h5,h6⟩
def Afk {p:Sa_} {Q M R:Nat} (h:okAll p Q M R):okAll (takeToken p).1 Q M R:=by
 unfold takeToken;split
 ·exact h
 ·rename_i hc;have hq:0<p.bn.length:=o_
  have ht:=h.1.1 _ (A7 hq);have hk:=Ac1 h hq;unfold takeTok;split
  ·exact WF hk _ _ ht
  ·split
   ·exact X3 hk _
   ·exact hk
def XB {p:Sa_} {Q M R:Nat} (h:okAll p Q M R):okAll (stepParser p).1 (Q+370) M R:=by
 have hm:=Fa h (Qc6 Q 370);unfold stepParser;split
 ·unfold stepInline;split
  ·exact Y7 h _ _
  ·exact hm
 ·split
  ·unfold stepBlock;split
   ·exact hm
   ·split
    ·exact hm
    ·split
     ·exact Y7 h _ _
     ·exact hm
  ·exact Afk hm
def Yw (b:ByteArray):∀ (l:List ByteArray) (acc:List Sb_),∀ x,x∈(pmGo b l acc).2.1->x.text.size<=60
 | [],acc,x,h=>by cases h
 | w::l,acc,x,h=>by
  rw[pmGo] at h;split at h
  ·split at h
   ·exact Yw b l _ x h
   ·cases h
  ·split at h
   ·exact Oy _ x h
   ·cases h
def ZC {p q:Sa_} {Q M R:Nat} (h:okAll q Q M R) (he:q.bh=p.bh) (b:Sb_) (hb:0<=findMod p.bh b):okAll (enter1 p q b) Q M R/\(enter1 p q b).bh=p.bh:=by
 unfold enter1;split
 ·exact⟨h,he⟩
 ·rename_i hn;have hn:inL q.ran b=false:=by simpa using hn
  obtain⟨h1,h2,h3,⟨h4,h7,h8,h9⟩,h5,h6⟩:=h;have hf:=B7 p.bh b;have hd:=TL q.ran b hn p.bh _ (show(findMod p.bh b).toNat<p.bh.length from o_) (IZ hb);have h0:szL szAddr []=0:=rfl;refine⟨⟨h1,Mu _ _ _ _ _ h2,h3,⟨h4,h7,?_,h9⟩,Nc _ _ (LW _ (ET _).2 _ _ _ _ h2 (Yw _ _ _) λs hs=>by cases hs) h5,h6⟩,he⟩;unfold ranP at *
  dsimp only;rw[he] at h8 ⊢;rw[C4,Av,h0];omega
def M1 {p:Sa_} {Q M R:Nat}:∀ (l:List Sb_) (q:Sa_),okAll q Q M R->q.bh=p.bh->(∀ b,b∈l->0<=findMod p.bh b)->okAll (enterAll p q l) Q M R
 | [],q,h,_,_=>h
 | b::l,q,h,he,hb=>by obtain⟨i1,i2⟩:=ZC h he b (hb b Qd7);exact M1 l _ i1 i2 λx hx=>hb x (Qc4 _ hx)
def RX (a:Sb_):(formatAddr a).size<=17:=by
 unfold formatAddr;split
 ·rename_i h;rw[Qa2] at h;have h1:=Cn h.1;have h2:=Cn h.2;rw[Qb3,Qb3,show ByteArray.size ⟨#[47]⟩=1 from rfl];omega
 ·exact Nat.zero_le _
def Aa6 {p:Sa_} {Q M R:Nat} (h:okAll p Q M R) (a:Sb_):okAll (enter p a) Q M R:=by
 unfold enter;split
 ·refine ZW h ?_;have:=RX a;rw[Qb3,show ByteArray.size ⟨#[102,97,105,108,32]⟩=5 from rfl];omega
 ·rename_i hf;exact M1 _ _ h rfl λb hb=>Ko (by simpa using hf) hb
def Ae5 {p:Sa_} {Q M R:Nat} (h:okAll p Q M R):okAll (stepTail p).1 (Q+370) M R:=by
 have hm:=Fa h (Qc6 Q 370);unfold stepTail;split
 ·exact hm
 ·split
  ·unfold tailDefer;split
   ·exact hm
   ·split
    ·exact Y7 h _ _
    ·exact hm
  ·split
   ·unfold tailEnter;split
    ·exact hm
    ·exact Aa6 hm _
   ·split
    ·exact hm
    ·exact ZW hm (by decide)
def NW {p:Sa_} {Q M R:Nat} (h:okAll p Q M R) (hQ:Q<=900000000000) (hM:M<=50000000000) (hR:R<=20000000000):okTail p:=by
 obtain⟨⟨a1,a2⟩,⟨b1,b2⟩,⟨c1,c2⟩,⟨d1,d2,d3,d4⟩,e1,f1⟩:=h;have hg:logP p.log<=3000000:=e1;have hc:szPolicy p.bj+szAddr p.addr+p.tok.rest.size<=9000000:=by(unfold okCm at f1;omega)
 unfold nodeP at b1;unfold openP at b2;unfold slotP at c1;unfold entP at d1;unfold modP at d2;unfold ranP at d3;unfold logP at hg;have hn:=Ac szNode p.ba.bi;have hb:szBuilder p.ba=szL szNode p.ba.bi+p.ba.bl.length:=rfl;have hh:p.addr.host.size<=szAddr p.addr:=by simp only[szAddr];omega
 refine⟨⟨⟨?_,o_,λi hi=>?_,o_,o_⟩,o_,λi hi=>?_⟩,λi hi=>?_,o_,λi hi=>?_⟩
 ·simp only[szPage,Dv];omega
 ·have:=a1 _ (A7 hi);omega
 ·have:=c2 _ (A7 hi);omega
 ·have:=d4 _ (A7 hi);omega
 ·have:=DZ szAddr hi;have h3:(p.bg.getD i default).host.size<=szAddr (p.bg.getD i default):=by simp only[szAddr];omega
  omega
def step1 (p:Sa_):Sa_×Bool:=if(stepParser p).2=true then stepParser p else stepTail p
def adv:Nat->Sa_->Sa_
 | 0,p=>p
 | n+1,p=>if(step1 p).2=true then adv n (step1 p).1 else p
def advance (p:Sa_):Sa_:=adv 2000 p
def P4 {p:Sa_} (h:(stepParser p).2=true):step1 p=stepParser p:=by unfold step1;rw[Qa1 h]
def JZ {p:Sa_} (h:(stepParser p).2=false):step1 p=stepTail p:=by unfold step1;rw[Qa3 (by rw[h];decide)]
def Uh {p:Sa_} {Q M R:Nat} (h:okAll p Q M R):okAll (step1 p).1 (Q+370) M R:=by
 unfold step1;split
 ·exact XB h
 ·exact Ae5 h
def AdR {M R:Nat}:∀ (n:Nat) (p:Sa_) (Q:Nat),okAll p Q M R->okAll (adv n p) (Q+370*n) M R
 | 0,p,Q,h=>h
 | n+1,p,Q,h=>by
  rw[adv];split
  ·have:=AdR n _ _ (Uh h);rw[show Q+370+370*n=Q+370*(n+1) from o_] at this;exact this
  ·exact Fa h o_
def Ol {p:Sa_} {Q M R:Nat} (h:okAll p Q M R):okAll (advance p) (Q+740000) M R:=AdR 2000 p Q h
def okAdv (p:Sa_):Prop:=∃ Q M R,okAll p Q M R/\Q<=899000000000/\M<=50000000000/\R<=20000000000
def advInv (p q:Sa_) (i:Int):Prop:=0<=i/\i<=2000/\adv (2000-i.toNat) q=advance p/\∃ Q M R,okAll q (Q+370*i.toNat) M R/\Q<=899000000000/\M<=50000000000/\R<=20000000000
def H3 {p:Sa_} (h:okAdv p):advInv p p 0:=by
 obtain⟨Q,M,R,h1,h2⟩:=h;exact⟨o_,o_,rfl,Q,M,R,h1,h2⟩
def Hb {p q:Sa_} {i:Int} (h:advInv p q i):okTail q:=by
 obtain⟨h1,h2,_,Q,M,R,h3,h4,h5,h6⟩:=h;exact NW h3 o_ h5 h6
def JD {p q:Sa_} {i:Int} (h:advInv p q i) (hi:i<2000) (hs:(step1 q).2=true):advInv p (step1 q).1 (i+1):=by
 obtain⟨h1,h2,h0,Q,M,R,h3,h4⟩:=h;rw[show 2000-i.toNat=(2000-(i+1).toNat)+1 from o_,adv,Qa1 hs] at h0;refine⟨o_,o_,h0,Q,M,R,?_,h4⟩;have:=Uh h3;rw[show Q+370*i.toNat+370=Q+370*(i+1).toNat from o_] at this;exact this
def GT {p q:Sa_} {i:Int} (h:advInv p q i) (hs:i<2000->(step1 q).2=false):q=advance p:=by
 obtain⟨h1,h2,h0,_⟩:=h;rcases Nat.eq_zero_or_pos (2000-i.toNat) with hz|hz
 ·rw[hz] at h0;exact h0
 ·obtain⟨n,hn⟩:∃ n,2000-i.toNat=n+1:=⟨2000-i.toNat-1,o_⟩;rw[hn,adv,Qa3 (by rw[hs o_];decide)] at h0;exact h0
def Ct:Fct:=⟨[.v (.el .page)],[.el .page],λ(x_:Sa_×Unit)=>okAdv x_.1,λ(x_:Sa_×Unit)=>(advance x_.1,())⟩
abbrev DJ (p:Sa_):LInv:=⟨[⟨.b,3,true,.el .page⟩,⟨.s,4,true,.el .int⟩,⟨.b,2,true,.el .page⟩],λ(z_ x_:Sa_×Int×Sa_×Unit)=>(advInv p x_.1 x_.2.1)/\x_.2.2.1=z_.2.2.1,λ(x_:Sa_×Int×Sa_×Unit)=>(2000-x_.2.1).toNat⟩
def Aly:=AjB.a Ct<|Fct.p (KP [1,2,3,4,5,6] [10,19,26]) (λ⟨p,_⟩=>lv [(3,DJ p)]) AjB.2 func185 (by
 rintro⟨(p:Sa_),_⟩ hp;refine ho (.cl fCopyPage (p,()) λz2=>lpx (DJ p) (z2.1,((0:Int),(default,()))) λ(y2:Sa_×Int×Sa_×PUnit) bk2=>.br (decide (y2.2.1<2000)) (.cl A0 (y2.1,()) λz3=>.br (!z3.2.1) (.cl BN (y2.1,()) λz4=>.br (!z4.2.1) (.lf Ct (y2.1,())) (.ob (bk2 (z4.1,(w1 y2.2.1,(y2.2.2.1,()))))<|.ok)) (.br (!z3.2.1) (.lf Ct (y2.1,())) (.ob (bk2 (z3.1,(w1 y2.2.1,(y2.2.2.1,()))))<|.ok))) (.lf Ct (y2.1,()))) ?_;refine Ae ?_ λ_=>(Ai ?_ λ(y2:Sa_×Int×Sa_×PUnit) i2=>Ab (λh3=>Ae ?_ λ_=>(Ab (λh5=>Ae ?_ λ_=>(Ab (λh7=>lfY ?_) (λh7=>Aa ?_ λ_=>trivial))) (λh5=>Ab (λh9=>lfY ?_) (λh9=>Aa ?_ λ_=>trivial)))) (λh3=>lfY ?_))
 all_goals
  have hq:okAdv p:=hp;have h0:=(Hb (H3 hq)).1.1.1;try simp only[DJ,Ct,fCopyPage,A0,BN,std,Nat.reduceAdd] at *
 all_goals first|trivial|omega|skip
 all_goals first|exact H3 hq|exact⟨H3 hq,rfl⟩|(obtain⟨i3,e1⟩:=i2;have ht:=Hb i3)
 all_goals first|exact ht|exact ht.1|exact(tf ‹_› ‹_›).elim|skip
 all_goals first|exact GT i3 (λh=>absurd h o_)|exact GT i3 (λ_=>by rw[JZ ‹_›];assumption)|skip
 all_goals rw[Ag (by have:=i3.1;omega)]
 all_goals first|(have e:=JD i3 ‹_› (by rw[JZ ‹_›];assumption);rw[JZ ‹_›] at e;exact⟨⟨e,e1⟩,o_⟩)|(have e:=JD i3 ‹_› (by rw[P4 ‹_›];assumption);rw[P4 ‹_›] at e;exact⟨⟨e,e1⟩,o_⟩))
def arrPage (l:Sc_):Sa_:=if l.parts.length=1 then endPage (arriveText l.page (l.parts.getD 0 default)) else arriveText l.page (l.parts.getD 0 default)
def arrivePart (l:Sc_):Sc_×Bool:=if l.parts.length=0 then(l,false) else({ l with parts:=l.parts.drop 1,page:=advance (arrPage l)},true)
def Ad5:∀ l:List Sn_,undS l<=l.length
 | []=>Qa7 _
 | s::l=>by have:=Ad5 l;rw[undS,Qa6];split<;>omega
def Aat:∀ l:List Sg_,undM l<=l.length
 | []=>Qa7 _
 | s::l=>by have:=Aat l;rw[undM,Qa6];split<;>omega
def Adx (r:List Sb_):∀ l:List Sg_,nrL r l<=szL Az l
 | []=>Qa7 _
 | s::l=>by have:=Adx r l;rw[nrL,Av];split<;>simp only[Az]<;>omega
def RW {p:Sa_} (h:szPage p<=2000000):okAll p 2000000 1100000000 10000000:=by
 have h1:=Ac AP p.bf;have h2:=Ac Az p.bh;have h3:=Ad5 p.bf;have h4:=Aat p.bh;have h5:=Adx p.ran p.bh;have h6:=Ac szNode p.ba.bi;simp only[szPage,Dv,szBuilder] at h;refine⟨⟨λt ht=>?_,o_⟩,⟨?_,?_⟩,⟨?_,λs hs=>?_⟩,⟨?_,?_,?_,λm hm=>?_⟩,?_,?_⟩
 ·have:=HS szToken ht;omega
 ·unfold nodeP;omega
 ·unfold openP;omega
 ·unfold slotP;omega
 ·have:=HS AP hs;simp only[AP] at this;omega
 ·unfold entP;omega
 ·unfold modP;omega
 ·unfold ranP;omega
 ·have:=HS Az hm;simp only[Az] at this;omega
 ·unfold okLg logP;omega
 ·unfold okCm;omega
def XM {p:Sa_} {Q M R:Nat} {s:ByteArray} (h:okAll p Q M R) (hs:p.tok.rest.size+s.size<=3000000):okAll (arriveText p s) (Q+3000001) M R/\(arriveText p s).tok.rest.size<=p.tok.rest.size+s.size+1:=by
 unfold arriveText;split
 ·exact⟨Fa h o_,o_⟩
 ·obtain⟨h1,h2,h3,h4,h5,h6⟩:=h;have hz:=Kf (p.tok.rest++s);rw[Qb3] at hz;refine⟨⟨⟨λt ht=>?_,?_⟩,h2,h3,h4,h5,?_⟩,?_⟩
  ·rcases Qb8.1 ht with q|q
   ·exact h1.1 t q
   ·have:=HS szToken q;omega
  ·dsimp only;rw[C4];have:=h1.2;omega
  ·unfold okCm at *;dsimp only;omega
  ·dsimp only;omega
def Ahn {p:Sa_} {Q M R:Nat} (h:okAll p Q M R) (hs:p.tok.rest.size<=3000010):okAll (endPage p) (Q+3000020) M R/\(endPage p).tok.rest.size<=p.tok.rest.size:=by
 unfold endPage;split
 ·exact⟨Fa h o_,Qa7 _⟩
 ·obtain⟨h1,h2,h3,h4,h5,h6⟩:=h;have hz:=NP p.tok.rest;have h0:(default:So_).rest.size=0:=rfl;refine⟨⟨⟨λt ht=>?_,?_⟩,h2,h3,h4,h5,?_⟩,?_⟩
  ·rcases Qb8.1 ht with q|q
   ·exact h1.1 t q
   ·have:=HS szToken q;omega
  ·dsimp only;rw[C4];have:=h1.2;omega
  ·unfold okCm at *;dsimp only;omega
  ·dsimp only;omega
def Adu {l:Sc_} {Q M R:Nat} (h:okAll l.page Q M R) (hs:l.page.tok.rest.size+(l.parts.getD 0 default).size<=3000000):okAll (arriveText l.page (l.parts.getD 0 default)) (Q+3000001) M R/\okAll (arrPage l) (Q+6000021) M R/\(arrPage l).tok.rest.size<=l.page.tok.rest.size+(l.parts.getD 0 default).size+1:=by
 have h1:=XM h hs;unfold arrPage;split
 ·have h2:=Ahn h1.1 o_;exact⟨h1.1,Fa h2.1 o_,o_⟩
 ·exact⟨h1.1,Fa h1.1 o_,h1.2⟩
def Im {p:Sa_} {Q M R:Nat} (h:okAll p Q M R) (hQ:Q<=900000000000) (hM:M<=50000000000) (hR:R<=20000000000):szPage p<=1000000000000:=(NW h hQ hM hR).1.1.1
def okLd (l:Sc_):Prop:=∃ Q M R,okAll l.page Q M R/\Q<=890000000000/\M<=50000000000/\R<=20000000000
def okArr (l:Sc_):Prop:=(szNet l.net<=68719476736/\l.conns.length<=1048576/\l.guesses.length<=4194304)/\l.page.tok.rest.size+szL Af l.parts<=2900000/\okLd l
def Uv {l:Sc_} (h:okArr l) (hl:l.parts.length≠0):szPage l.page<=1000000000000/\l.page.tok.rest.size<=10000000/\(l.parts.getD 0 default).size<=10000000/\szPage (arriveText l.page (l.parts.getD 0 default))<=1000000000000/\okAdv (arrPage l):=by
 obtain⟨h1,h2,Q,M,R,h3,h4,h5,h6⟩:=h;have hg:=DZ Af (l:=l.parts) (i:=0) o_;simp only[Af] at hg;obtain⟨a1,a2,a3⟩:=Adu h3 o_;exact⟨Im h3 o_ h5 h6,o_,o_,Im a1 o_ h5 h6,Q+6000021,M,R,a2,o_,h5,h6⟩
def MJ {l:Sc_} (h:l.parts.length≠0):arrivePart l=({ l with parts:=l.parts.drop 1,page:=advance (arrPage l)},true):=by unfold arrivePart;rw[Qa3 h]
def ZT {l:Sc_} (h:l.parts.length=0):arrivePart l=(l,false):=by unfold arrivePart;rw[Qa1 h]
def Pz {l:Sc_} (h:l.parts.length=1):arrPage l=endPage (arriveText l.page (l.parts.getD 0 default)):=by unfold arrPage;rw[Qa1 h]
def Pu {l:Sc_} (h:l.parts.length≠1):arrPage l=arriveText l.page (l.parts.getD 0 default):=by unfold arrPage;rw[Qa3 h]
def I6 {α:Type} {l:List α}:cut l 1 (l.length-1)=l.drop 1:=by
 unfold cut;rw[Qb0 (by simp)]
def Ce:Fct:=⟨[.v (.el .loader)],[.el .loader,.el .bool],λ(x_:Sc_×Unit)=>okArr x_.1,λ(x_:Sc_×Unit)=>((arrivePart x_.1).1,(arrivePart x_.1).2,())⟩
def AiY:=Aly.a Ce<|Fct.o (KP [1,2,3,4,5] [11,27]) Aly.2 func149 (by
 rintro⟨(l:Sc_),_⟩ hp;refine ho (.cl fCopyLoader (l,()) λz2=>.br ((l.parts.length:Int)==0) (.lf Ce (z2.1,false,())) (.ob ((0:Int)<=(0:Int)/\(0:Int)<(l.parts.length:Int))<|.cl Ci (l.page,l.parts.getD 0 default,()) λz3=>.ob ((0:Int)<=(1:Int)/\(1:Int)<=(z2.1.parts.length:Int))<|.br ((↑(z2.1.parts.length-1):Int)==0) (.cl Ej (z3.1,()) λz4=>.cl Ct (z4.1,()) λz5=>.ob (1+(z2.1.parts.length-1)<=z2.1.parts.length)<|.lf Ce (⟨z2.1.net,z5.1,cut z2.1.parts 1 (z2.1.parts.length-1),z2.1.conns,z2.1.guesses⟩,true,())) (.cl Ct (z3.1,()) λz6=>.ob (1+(z2.1.parts.length-1)<=z2.1.parts.length)<|.lf Ce (⟨z2.1.net,z6.1,cut z2.1.parts 1 (z2.1.parts.length-1),z2.1.conns,z2.1.guesses⟩,true,())))) ?_;refine Ae ?_ λ_=>(Ab (λh2=>lfY ?_) (λh2=>Aa ?_ λ_=>Ae ?_ λ_=>(Aa ?_ λ_=>Ab (λh6=>Ae ?_ λ_=>(Ae ?_ λ_=>(Aa ?_ λ_=>lfY ?_))) (λh6=>Ae ?_ λ_=>(Aa ?_ λ_=>lfY ?_)))))
 all_goals have hq:okArr l:=hp
 all_goals obtain⟨hsz1,hsz2,hsz3⟩:=hq.1
 all_goals
  have hpg:szPage l.page<=1000000000000:=by(obtain⟨Q,M,R,h1,h2,h3,h4⟩:=hq.2.2;exact Im h1 o_ h3 h4)
  have hpl:l.parts.length<=2900000:=by(have h1:=hq.2.1;have:=Ac Af l.parts;omega)
  try simp only[Ct,Ce,Ci,fCopyLoader,Ej,std,Nat.reduceAdd] at *
 all_goals first|trivial|omega|(rw[ZT o_];exact⟨rfl,rfl⟩)|(obtain⟨g1,g2,g3,g4,g5⟩:=Uv hq o_)|skip
 all_goals first|trivial|omega|exact⟨g1,g2,g3⟩|skip
 all_goals first|(rw[Pz o_] at g5;first|exact g5|(rw[MJ o_,Pz o_,I6];exact⟨rfl,rfl⟩))|(rw[Pu o_] at g5;first|exact g5|(rw[MJ o_,Pu o_,I6];exact⟨rfl,rfl⟩)))
def opWords:List ByteArray:=[⟨#[]⟩,⟨#[119,114,105,116,101]⟩,⟨#[97,100,100]⟩,⟨#[99,111,117,110,116]⟩,⟨#[108,111,111,107]⟩,⟨#[115,97,121]⟩]
def opW (n:Int):ByteArray:=if 1<=n/\n<=5 then opWords.getD n.toNat default else⟨#[]⟩
def Adq {n:Int} (h:1<=n) (h2:n<=5):opW n=opWords.getD n.toNat default:=by unfold opW;rw[Qa1 ⟨h,h2⟩]
def IE:Fct:=⟨[.v (.el .int)],[.el .str],λ(x_:Int×Unit)=>True,λ(x_:Int×Unit)=>(opW x_.1,())⟩
def AkI:=AiY.a IE<|Fct.o (KP [0,2] [5]) AiY.2 func445 (by
 rintro⟨(n:Int),_⟩ hp;refine ho (.cl fInRange (n,(1:Int),(5:Int),()) λz2=>.br (!z2.1) (.lf IE ((⟨#[]⟩:ByteArray),())) (.ob (0<=wr (n-(1:Int))/\wr (n-(1:Int))<5)<|.ob ((wr (n-(1:Int))).toNat<5)<|.lf IE ([(⟨#[119,114,105,116,101]⟩:ByteArray),(⟨#[97,100,100]⟩:ByteArray),(⟨#[99,111,117,110,116]⟩:ByteArray),(⟨#[108,111,111,107]⟩:ByteArray),(⟨#[115,97,121]⟩:ByteArray)].getD (wr (n-(1:Int))).toNat default,()))) ?_;refine Ae trivial λ_=>(Ab (λh1=>lfY ?_) (λh1=>Aa ?_ λ_=>Aa ?_ λ_=>lfY ?_))
 all_goals
  try simp only[fInRange,IE,std,Nat.reduceAdd,inRange] at *
  try simp only[Qa2,Qe1,Qa9,Qa8] at *
 all_goals first|trivial|omega|(unfold opW;rw[Qa3 o_])|(rw[Ag o_];omega)|skip
 all_goals rw[Ag o_,Adq o_ o_]
 all_goals rcases(show n=1\/n=2\/n=3\/n=4\/n=5 from o_) with rfl|rfl|rfl|rfl|rfl<;>rfl)
def Sx (b:UInt8) (s:ByteArray):(Fx b s).1.size<=s.size/\(Fx b s).2.1.size<=s.size:=by
 unfold Fx;cases h:Ft b (toL s) with
 | none=>exact⟨Qa7 _,Nat.zero_le _⟩
 | some r=>
  have:=PE (p:=r.1) (q:=r.2) h;rw[BQ] at this;exact⟨by dsimp only;rw[F5];exact this.1,by dsimp only;rw[F5];exact this.2⟩
def OI {b:UInt8}:∀ {l p q:List UInt8},Ft b l=some (p,q)->l=p++b::q/\b∉p
 | [],p,q,h=>by cases h
 | x::l,p,q,h=>by
  rw[Ft] at h;split at h
  ·rename_i hx;obtain⟨rfl,rfl⟩:=Prod.mk.inj (Option.some.inj h);exact⟨by rw[hx];rfl,by simp⟩
  ·rename_i hx;obtain⟨r,hr,he⟩:=Option.map_eq_some_iff.1 h;obtain⟨rfl,rfl⟩:=Prod.mk.inj he;obtain⟨h1,h2⟩:=OI (p:=r.1) (q:=r.2) hr;refine⟨by rw[h1];rfl,?_⟩;rw[Qd6];rintro(h|h)
   ·exact hx h.symm
   ·exact h2 h
def Aer {a b:ByteArray} (h:toL a=toL b):a=b:=by rw[<-DW a,h,DW]
def YV {x s:ByteArray} (hx:(32:UInt8)∉toL x):(((x++⟨#[32]⟩).size<=s.size/\s.extract 0 (x++⟨#[32]⟩).size=x++⟨#[32]⟩)↔(Fx 32 s).2.2=true/\(Fx 32 s).1=x)/\((Fx 32 s).2.2=true/\(Fx 32 s).1=x->(Fx 32 s).2.1=s.extract (x++⟨#[32]⟩).size s.size):=by
 have e32:toL (x++⟨#[32]⟩)=toL x++[32]:=by rw[Fb];rfl
 have hsz:(x++⟨#[32]⟩).size=(toL x).length+1:=by rw[Qb3];rfl
 have fwd:((x++⟨#[32]⟩).size<=s.size/\s.extract 0 (x++⟨#[32]⟩).size=x++⟨#[32]⟩)->Ft 32 (toL s)=some (toL x,(toL s).drop ((toL x).length+1)):=by rintro⟨h1,h2⟩;have h3:=congrArg toL h2;rw[Bo,Qe7,e32,hsz] at h3;have h4:=(Qd2 ((toL x).length+1) (toL s)).symm;rw[h3,Qb4,List.singleton_append] at h4;have h5:=OE (p:=toL x) ((toL s).drop ((toL x).length+1)) hx;rw[<-h4] at h5;exact h5
 refine⟨⟨λh=>?_,λh=>?_⟩,λh=>?_⟩
 ·have:=fwd h;unfold Fx;rw[this];exact⟨rfl,DW x⟩
 ·unfold Fx at h;cases hc:Ft 32 (toL s) with
  | none=>rw[hc] at h;exact absurd h.1 Bool.false_ne_true
  | some r=>
   obtain⟨p,q⟩:=r;rw[hc] at h;have hp:ofL p=x:=h.2;obtain⟨h1,h2⟩:=OI hc;have hpx:p=toL x:=by rw[<-hp,JX]
   rw[hpx] at h1;have hl:s.size=(toL x).length+(q.length+1):=by rw[<-BQ,h1,Qa4,Qa6]
   refine⟨by rw[hsz];omega,?_⟩;refine Aer ?_;rw[Bo,Qe7,e32,hsz,h1,List.take_append,Qb0 o_,show(toL x).length+1-(toL x).length=1 from o_];rfl
 ·unfold Fx at h ⊢;cases hc:Ft 32 (toL s) with
  | none=>rw[hc] at h;exact absurd h.1 Bool.false_ne_true
  | some r=>
   obtain⟨p,q⟩:=r;rw[hc] at h;have hp:ofL p=x:=h.2;obtain⟨h1,h2⟩:=OI hc;have hpx:p=toL x:=by rw[<-hp,JX]
   rw[hpx] at h1;rw[hsz,<-Ph,h1,List.drop_append,Qb1 o_,Qf8,show(toL x).length+1-(toL x).length=1 from o_];rfl
def pline (s:ByteArray):Sr_×Bool:=if(line8 s).2=true then((line8 s).1,true) else(default,false)
def plOk (k:Int) (t:ByteArray):Bool:=if k=1\/k=5 then decide (t.size<=60) else isName t
def Q2 {k:Int} {t:ByteArray} (h:k=1\/k=5):plOk k t=decide (t.size<=60):=by unfold plOk;rw[Qa1 h]
def Qq {k:Int} {t:ByteArray} (h:¬ (k=1\/k=5)):plOk k t=isName t:=by unfold plOk;rw[Qa3 h]
def plineL (c:ByteArray×ByteArray×Bool):List ByteArray->Int->Sr_×Bool
 | [],_=>(default,false)
 | x::l,k=>if x=c.1 then(if c.2.2=true/\plOk k c.2.1=true then(⟨k,c.2.1⟩,true) else(default,false)) else plineL c l (k+1)
def QL (s:ByteArray):∀ (l:List ByteArray) (k:Int),(∀ x,x∈l->(32:UInt8)∉toL x)->plineL (Fx 32 s) l k=if(line8L s (l.map λx=>x++⟨#[32]⟩) k).2=true then((line8L s (l.map λx=>x++⟨#[32]⟩) k).1,true) else(default,false)
 | [],k,_=>rfl
 | x::l,k,h=>by
  have hx:=h x Qd7;obtain⟨h1,h2⟩:=YV (s:=s) hx;have ih:=QL s l (k+1) λy hy=>h y (Qc4 _ hy)
  rw[plineL,Qc7,line8L];by_cases hc:(Fx 32 s).2.2=true/\(Fx 32 s).1=x
  ·rw[Qa1 hc.2.symm,Qa1 (h1.2 hc),<-h2 hc];have hl:(Fx 32 s).2.1.size=s.size-(x++⟨#[32]⟩).size:=by rw[h2 hc,Qc1];have:=(h1.2 hc).1;omega
   dsimp only;have hb:(if k=1\/k=5 then decide (s.size-(x++⟨#[32]⟩).size<=60) else isName (Fx 32 s).2.1)=plOk k (Fx 32 s).2.1:=by unfold plOk;rw[hl]
   rw[hb];by_cases hk:plOk k (Fx 32 s).2.1=true
   ·rw[Qa1 ⟨hc.1,hk⟩,Qa1 hk]
   ·rw[Qa3 (λq=>hk q.2),Qa3 hk]
  ·rw[Qa3 (λq=>hc (h1.1 q))];by_cases hw:x=(Fx 32 s).1
   ·rw[Qa1 hw,Qa3 (λq=>hc ⟨q.1,hw.symm⟩)];have hno:(Fx 32 s).2.2=false:=by
     cases hb:(Fx 32 s).2.2 with
     | false=>rfl
     | true=>exact absurd ⟨hb,hw.symm⟩ hc
    have hall:∀ (l:List ByteArray) (k:Int),(∀ x,x∈l->(32:UInt8)∉toL x)->(line8L s (l.map λx=>x++⟨#[32]⟩) k).2=false:=by
     intro l
     induction l with
     | nil=>intro k _;rfl
     | cons y l ih=>
      intro k hy;rw[Qc7,line8L,Qa3]
      ·exact ih _ λz hz=>hy z (Qc4 _ hz)
      ·intro q;have:=((YV (s:=s) (hy y Qd7)).1.1 q).1;rw[hno] at this;cases this
    rw[Qa3 (by rw[hall l _ λy hy=>h y (Qc4 _ hy)];decide)]
   ·rw[Qa3 hw];exact ih
def Aa5 (s:ByteArray):plineL (Fx 32 s) (opWords.drop 1) 1=pline s:=by
 rw[QL s _ _ (by decide)];rfl
def Zx {c:ByteArray×ByteArray×Bool} {i:Nat} {k:Int} (h:i<opWords.length):plineL c (opWords.drop i) k=if opWords.getD i default=c.1 then(if c.2.2=true/\plOk k c.2.1=true then(⟨k,c.2.1⟩,true) else(default,false)) else plineL c (opWords.drop (i+1)) (k+1):=by rw[drop_cons h];rfl
def Vi {c:ByteArray×ByteArray×Bool} {i:Nat} {k:Int} (h:opWords.length<=i):plineL c (opWords.drop i) k=(default,false):=by rw[Qb1 h];rfl
def M0:opWords.length=6:=rfl
def MW:Fct:=⟨[.v (.el .str)],[.el .line,.el .bool],λ(x_:ByteArray×Unit)=>x_.1.size<=4200000000,λ(x_:ByteArray×Unit)=>((pline x_.1).1,(pline x_.1).2,())⟩
abbrev Dy (s:ByteArray):LInv:=⟨[⟨.s,7,true,.el .int⟩,⟨.b,2,true,.el .line⟩],λ(z_ x_:Int×Sr_×Unit)=>(1<=x_.1/\x_.1<=6/\plineL (Fx 32 s) (opWords.drop x_.1.toNat) x_.1=pline s)/\x_.2.1=z_.2.1,λ(x_:Int×Sr_×Unit)=>(6-x_.1).toNat⟩
def Akn:=AkI.a MW<|Fct.p (KP [0,2,3,4,5,6,7,8] [16,22,47]) (λ⟨s,_⟩=>lv [(3,Dy s)]) AkI.2 func423 (by
 rintro⟨(s:ByteArray),_⟩ hp;refine ho (let q1_:Out:=.lf MW (default,false,());.cl TP (s,(⟨#[32]⟩:ByteArray),()) λz2=>let q3_:=decide ((z2.2.1.size:Int)>60);lpx (Dy s) ((1:Int),(default,())) λ(y2:Int×Sr_×PUnit) bk2=>let q2_:Out:=.lf MW (⟨y2.1,z2.2.1⟩,true,());let q0_:Out:=.cl fIsName (z2.2.1,()) λz4=>.br (!z4.1) q1_ q2_;let q4_:Out:=.br (!y2.1==5) q0_ q2_;.br (decide (y2.1<=5)) (.cl IE (y2.1,()) λz3=>.br (!z3.1.toList==z2.1.toList) (.ob (Value.string s=Value.string s)<|.ob (Value.string z2.1=Value.string z2.1)<|.ob (Value.string z2.2.1=Value.string z2.2.1)<|.ob (Value.bool z2.2.2.1=Value.bool z2.2.2.1)<|.ob (bk2 (w1 y2.1,(y2.2.1,())))<|.ok) (.br (y2.1==1) (.br (!z2.2.2.1) q1_ (.br q3_ q1_ (.br (!true) q0_ q2_))) (.br (!z2.2.2.1) q1_ (.br (y2.1==5) (.br q3_ q1_ q4_) q4_)))) q1_) ?_;refine Ae ?_ λ_=>(Ai ?_ λ(y2:Int×Sr_×PUnit) i2=>Ab (λh3=>Ae trivial λ_=>(Ab (λh4=>Aa rfl λ_=>Aa rfl λ_=>Aa rfl λ_=>Aa rfl λ_=>Aa ?_ λ_=>trivial) (λh4=>Ab (λh6=>Ab (λh7=>lfY ?_) (λh7=>Ab (λh8=>lfY ?_) (λh8=>Ab (λh9=>Ae ?_ λ_=>(Ab (λh11=>lfY ?_) (λh11=>lfY ?_))) (λh9=>lfY ?_)))) (λh6=>Ab (λh12=>lfY ?_) (λh12=>Ab (λh13=>Ab (λh14=>lfY ?_) (λh14=>Ab (λh15=>Ae ?_ λ_=>(Ab (λh17=>lfY ?_) (λh17=>lfY ?_))) (λh15=>lfY ?_))) (λh13=>Ab (λh18=>Ae ?_ λ_=>(Ab (λh20=>lfY ?_) (λh20=>lfY ?_))) (λh18=>lfY ?_))))))) (λh3=>lfY ?_))
 all_goals
  try simp only[Hv] at *
  try simp only[Dy,TP,fIsName,IE,MW,std,Nat.reduceAdd] at *
  try simp only[show(#[32]:Array UInt8).getD 0 0=32 from rfl] at *
 all_goals first|trivial|omega|exact⟨o_,o_,Aa5 s⟩|(obtain⟨⟨a1,a2,a3⟩,e1⟩:=i2)
 all_goals have hcs:=Sx 32 s
 all_goals generalize Fx 32 s=c at *
 all_goals first|omega|skip
 all_goals first|(have e:=Zx (c:=c) (i:=y2.1.toNat) (k:=y2.1) (by rw[M0];omega);rw[a3,<-Adq o_ o_] at e;first|rw[Qa1 ‹_›] at e|rw[Qa3 ‹_›] at e)|(have e:=Vi (c:=c) (i:=y2.1.toNat) (k:=y2.1) (by rw[M0];omega);rw[a3] at e)
 all_goals first|(rw[e];exact⟨rfl,rfl⟩)|(rw[Ag o_,show(y2.1+1).toNat=y2.1.toNat+1 from o_];exact⟨⟨⟨o_,o_,e.symm⟩,e1⟩,o_⟩)|skip
 all_goals first|(rw[Qa1 ⟨‹_›,by first|(rw[Q2 o_];exact Qf1 o_)|(rw[Qq o_];assumption)⟩] at e;rw[e];exact⟨rfl,rfl⟩)|(rw[Qa3 (by rintro⟨q1,q2⟩;first|exact tf q1 ‹_›|(rw[Q2 o_] at q2;have:=Qg3 q2;omega)|(rw[Qq o_] at q2;exact tf q2 ‹_›))] at e;rw[e];exact⟨rfl,rfl⟩)|skip)
def Ab4 {s:ByteArray} (h:(pline s).2=true):pline s=((line8 s).1,true)/\(line8 s).2=true:=by
 unfold pline at h ⊢;split at h
 ·rename_i hc;rw[Qa1 hc];exact⟨rfl,hc⟩
 ·cases h
def Ac3 {s:ByteArray} (h:(pline s).2=false):(line8 s).2=false:=by
 unfold pline at h;split at h
 ·cases h
 ·rename_i hc;simpa using hc
abbrev BT (s:ByteArray):LInv:=⟨[⟨.s,4,true,.sl .line⟩,⟨.s,16,true,.el .int⟩,⟨.s,14,true,.sl .str⟩],λ(z_ x_:(List Sr_)×Int×(List ByteArray)×Unit)=>(0<=x_.2.1/\x_.2.1<=(spl 59 s).length/\(spl 59 s).length<1000000000000/\x_.1=lines8 ((spl 59 s).take x_.2.1.toNat)/\allOk8 ((spl 59 s).take x_.2.1.toNat)=true/\x_.2.1<=6)/\x_.2.2.1=z_.2.2.1,λ(x_:(List Sr_)×Int×(List ByteArray)×Unit)=>(spl 59 s).length-x_.2.1.toNat⟩
def Amz:=Akn.a AC<|Fct.p (KP [0,2,3,4,6,7,8,14,15,16] [10,17,31]) (λ⟨s,_⟩=>lv [(5,BT s)]) Akn.2 func388 (by
 rintro⟨(s:ByteArray),_⟩ hp;refine ho (.br (s.toList==(⟨#[]⟩:ByteArray).toList) (.lf AC ([],true,())) (.cl EG (s,(⟨#[59]⟩:ByteArray),()) λz2=>lpx (BT s) ([],((0:Int),(z2.1,()))) λ(y3:List Sr_×Int×List ByteArray×PUnit) bk3=>.br (decide (y3.2.1<(z2.1.length:Int))) (.ob (inB y3.2.1 y3.2.2.1.length)<|.ob (y3.2.1.toNat<y3.2.2.1.length)<|.cl MW (y3.2.2.1.getD y3.2.1.toNat default,()) λz3=>.br (!z3.2.1) (.lf AC ([],false,())) (.br ((y3.1.length:Int)==6) (.lf AC ([],false,())) (.ob (True)<|.ob (Br (y3.1.length+[z3.1].length) 24)<|.ob (Value.string s=Value.string s)<|.ob (Value.int IntKind.i64 (z2.1.length:Int)=Value.int IntKind.i64 (z2.1.length:Int))<|.ob (bk3 (y3.1++[z3.1],(w1 y3.2.1,(y3.2.2.1,()))))<|.ok))) (.lf AC (y3.1,true,())))) ?_;refine Ab (λh1=>lfY ?_) (λh1=>Ae ?_ λ_=>(Ai ?_ λ(y3:List Sr_×Int×List ByteArray×PUnit) i3=>Ab (λh4=>Aa ?_ λ_=>Aa ?_ λ_=>Ae ?_ λ_=>(Ab (λh8=>lfY ?_) (λh8=>Ab (λh9=>lfY ?_) (λh9=>Aa trivial λ_=>Aa ?_ λ_=>Aa rfl λ_=>Aa rfl λ_=>Aa ?_ λ_=>trivial)))) (λh4=>lfY ?_)));all_goals
  have hp1:s.size<=4200000000:=hp;have hk:=Eh 59 s;have hm:∀ i,i<(spl 59 s).length->((spl 59 s).getD i default).size<=s.size:=λi h=>IY (A7 h)
  try simp only[Hv] at *
  try simp only[BT,AC,MW,EG,std,Nat.reduceAdd] at *
  try simp only[show(#[59]:Array UInt8).getD 0 0=59 from rfl] at *
 all_goals first|trivial|omega|(unfold parseScript;rw[Qa1 ‹_›];exact⟨rfl,rfl⟩)|exact⟨o_,o_,o_,rfl,rfl,o_⟩|(obtain⟨⟨a1,a2,a3,a4,a5,a6⟩,e1⟩:=i3;simp only[e1] at *)
 all_goals try have hl:y3.1.length=y3.2.1.toNat:=by rw[a4,lines8,Qe9,Qc0];omega
 all_goals first|trivial|omega|(have:=hm y3.2.1.toNat o_;omega)|skip
 all_goals first|(unfold parseScript;rw[Qa3 ‹_›,Qa3 (by rintro⟨q1,q2⟩;first|omega|(rw[Ri (i:=y3.2.1.toNat) o_ (Ac3 ‹_›)] at q2;cases q2))];exact⟨rfl,rfl⟩)|skip
 all_goals first|(rw[Qb0 (l:=spl 59 s) (i:=y3.2.1.toNat) o_] at a4 a5;unfold parseScript;rw[Qa3 ‹_›,Qa1 (by exact⟨o_,a5⟩)];exact⟨a4,rfl⟩)|skip
 all_goals (obtain⟨e,ho⟩:=Ab4 (s:=(spl 59 s).getD y3.2.1.toNat default) ‹_›;have e2:=LJ (l:=spl 59 s) (i:=y3.2.1.toNat) o_;rw[Ag o_,show(y3.2.1+1).toNat=y3.2.1.toNat+1 from o_,e];simp only[Qe8];exact⟨⟨o_,o_,o_,by rw[e2.1,a4],by rw[e2.2,a5,ho];rfl,o_⟩,o_⟩))
def hasPre (s p:ByteArray):Bool:=decide (p.size<=s.size/\s.extract 0 p.size=p)
def fHasPre:Fct:=⟨[.v (.el .str),.v (.el .str)],[.el .bool],λ(x_:ByteArray×ByteArray×Unit)=>x_.1.size<=1000000000000/\x_.2.1.size<=1000000000000,λ(x_:ByteArray×ByteArray×Unit)=>(hasPre x_.1 x_.2.1,())⟩
def Aj6:=Amz.a fHasPre<|Fct.o [0,1,4] Amz.2 func268 (by
 rintro⟨(s:ByteArray),(p:ByteArray),_⟩ hp;refine ho (.br (decide ((↑(ByteArray.size s):Int)>=(↑(ByteArray.size p):Int))) (.ob ((0:Int)<=(↑(ByteArray.size p):Int)/\(↑(ByteArray.size p):Int)<=(↑(ByteArray.size s):Int))<|.lf fHasPre ((ByteArray.extract s 0 (↑(ByteArray.size p):Int).toNat).toList==ByteArray.toList p,())) (.lf fHasPre (false,()))) ?_;refine Ab (λh1=>Aa ?_ λ_=>lfY ?_) (λh1=>lfY ?_);all_goals
  try simp only[fHasPre,std,Nat.reduceAdd,hasPre] at *
  try simp(disch:=omega) only[wrapId',toNat1] at *
  try simp(disch:=omega) only[Qa1,Qa3]
 all_goals first|trivial|omega|grind[wrapId',toNat1,drop_cons,drop_end,good_len,maxLen,hasPre])
def cutPre (s p:ByteArray):ByteArray×Bool:=if hasPre s p=true then(s.extract p.size s.size,true) else(s,false)
def fCutPre:Fct:=⟨[.v (.el .str),.v (.el .str)],[.el .str,.el .bool],λ(x_:ByteArray×ByteArray×Unit)=>x_.1.size<=1000000000000/\x_.2.1.size<=1000000000000,λ(x_:ByteArray×ByteArray×Unit)=>((cutPre x_.1 x_.2.1).1,(cutPre x_.1 x_.2.1).2,())⟩
def AjV:=Aj6.a fCutPre<|Fct.o (KP [0,1,4,5] [9]) Aj6.2 func419 (by
 rintro⟨(s:ByteArray),(p:ByteArray),_⟩ hp;refine ho (.cl fHasPre (s,p,()) λz2=>.br (!z2.1) (.lf fCutPre (s,false,())) (.ob ((0:Int)<=(↑(ByteArray.size p):Int)/\(↑(ByteArray.size p):Int)<=(↑(ByteArray.size s):Int))<|.lf fCutPre (ByteArray.extract s (↑(ByteArray.size p):Int).toNat (ByteArray.size s),true,()))) ?_;refine Ae ?_ λ_=>(Ab (λh2=>lfY ?_) (λh2=>Aa ?_ λ_=>lfY ?_))
 all_goals
  have h:hasPre s p=true->p.size<=s.size:=λh=>(Qg3 h).1
  try simp only[fCutPre,fHasPre,std,Nat.reduceAdd,cutPre] at *
  try simp(disch:=omega) only[wrapId',toNat1] at *
  try simp(disch:=omega) only[Qa1,Qa3]
 all_goals first|trivial|omega|grind[wrapId',toNat1,drop_cons,drop_end,good_len,maxLen,cutPre,fHasPre])
def AkX:=AjV.a fCutPre<|Fct.o [0,1,4,5] AjV.2 func385 (by
 rintro⟨(s:ByteArray),(p:ByteArray),_⟩ hp;refine ho (.cl fCutPre (s,p,()) λz2=>.lf fCutPre (z2.1,z2.2.1,())) ?_;refine Ae ?_ λ_=>(lfY ?_)
 all_goals
  try simp only[fCutPre,std,Nat.reduceAdd] at *
  try simp(disch:=omega) only[wrapId',toNat1] at *
  try simp(disch:=omega) only[Qa1,Qa3]
 all_goals first|trivial|omega|grind[wrapId',toNat1,drop_cons,drop_end,good_len,maxLen,fCutPre])
def WH (w:ByteArray):cutPre w impW=if hasImp w then(w.extract 7 w.size,true) else(w,false):=by
 unfold cutPre hasPre;by_cases h:hasImp w
 ·rw[Qa1 h,Qf1 (show impW.size<=w.size/\w.extract 0 impW.size=impW from h),Qa1 rfl];rfl
 ·rw[Qa3 h,Qg5 (show ¬ (impW.size<=w.size/\w.extract 0 impW.size=impW) from h),Qa3 (by decide)]
def XR:∀ l:List ByteArray,KC l ⟨#[59]⟩=gl59 l
 | []=>rfl
 | [w]=>by show ofL (toL w)=w;exact DW w
 | w::x::l=>by have ih:=XR (x::l);unfold KC at ih ⊢;rw[gl59,<-ih];show ofL (toL w++[59]++PF [59] ((x::l).map toL))=_;rw[Ia,Ia,DW];rfl
def Ahw:∀ l:List ByteArray,(gl59 l).size<=szL Af l
 | []=>Qa7 _
 | [w]=>by rw[Av];show w.size<=w.size+1+0;omega
 | w::x::l=>by have ih:=Ahw (x::l);rw[gl59,Av,Qb3,Qb3];have h1:ByteArray.size ⟨#[59]⟩=1:=rfl;simp only[Af] at *;omega
def Aao {α:Type} [Inhabited α] (f:α->Nat) {l:List α} (h:0<l.length):szL f l=f (l.getD 0 default)+1+szL f (l.drop 1):=by
 have:=LV f h;rw[Qe7] at this;exact this
def pmInv (s b:ByteArray) (ps:List ByteArray) (im:List Sb_):Prop:=pmGo b ps im=parseModule s b/\szL Af ps+im.length<=s.size+1
def Af3 (s b:ByteArray):pmInv s b (spl 59 s) []:=⟨rfl,by rw[L2];exact Qa7 _⟩
def Abc {s b:ByteArray} {ps:List ByteArray} {im:List Sb_} (h:pmInv s b ps im) (h0:0<ps.length) (hi:hasImp (ps.getD 0 default)) (ha:(parseAddr ((ps.getD 0 default).extract 7 (ps.getD 0 default).size) b).2=true):pmInv s b (ps.drop 1) (im++[(parseAddr ((ps.getD 0 default).extract 7 (ps.getD 0 default).size) b).1]):=by
 obtain⟨h1,h2⟩:=h;have e:ps=ps.getD 0 default::ps.drop 1:=by have:=drop_cons (l:=ps) (i:=0) h0;rw[Qe7] at this;exact this
 rw[Aao Af h0] at h2;rw[e,pmGo,Qa1 hi,Qa1 ha] at h1;exact⟨h1,by rw[Qa4,Qd1];omega⟩
def Yz {s b:ByteArray} {ps:List ByteArray} {im:List Sb_} (h:pmInv s b ps im) (h0:0<ps.length) (hi:hasImp (ps.getD 0 default)) (ha:(parseAddr ((ps.getD 0 default).extract 7 (ps.getD 0 default).size) b).2=false):parseModule s b=([],[],false):=by
 have e:ps=ps.getD 0 default::ps.drop 1:=by have:=drop_cons (l:=ps) (i:=0) h0;rw[Qe7] at this;exact this
 rw[<-h.1,e,pmGo,Qa1 hi,Qa3 (by rw[ha];decide)]
def XW {s b:ByteArray} {ps:List ByteArray} {im:List Sb_} (h:pmInv s b ps im) (h0:ps.length=0\/¬ hasImp (ps.getD 0 default)):parseModule s b=if(parseScript (gl59 ps)).2=true then(im,(parseScript (gl59 ps)).1,true) else([],[],false):=by
 rw[<-h.1];cases ps with
 | nil=>rw[pmGo];show _=if(parseScript ⟨#[]⟩).2=true then _ else _;rw[Mx,Qa1 rfl];show _=(im,(parseScript ⟨#[]⟩).1,true);rw[Mx]
 | cons w l=>
  rcases h0 with h0|h0
  ·cases h0
  ·rw[pmGo,Qa3 (show ¬ hasImp w from h0)]
def AbW:(⟨#[105,109,112,111,114,116,32]⟩:ByteArray)=impW:=rfl
abbrev B2 (s:ByteArray) (b:ByteArray):LInv:=⟨[⟨.s,7,true,.sl .str⟩,⟨.s,8,true,.sl .addr⟩],λ_ (x_:(List ByteArray)×(List Sb_)×Unit)=>pmInv s b x_.1 x_.2.1,λ(x_:(List ByteArray)×(List Sb_)×Unit)=>x_.1.length⟩
def AjQ:=AkX.a Ay<|Fct.p (KP [0,1,4,5,6,7,8,9,10,11,12,13,14] [20,29,37,53]) (λ⟨s,b,_⟩=>lv [(3,B2 s b)]) AkX.2 func352 (by
 rintro⟨(s:ByteArray),(b:ByteArray),_⟩ hp;refine ho (let q3_:=(⟨#[59]⟩:ByteArray);let q2_:Out:=.lf Ay ([],[],false,());.cl EG (s,q3_,()) λz2=>lpx (B2 s b) (z2.1,([],())) λ(y2:List ByteArray×List Sb_×PUnit) bk2=>let q1_:=(y2.1.length:Int);let q0_:Out:=.cl L6 (y2.1,q3_,()) λz4=>.cl AC (z4.1,()) λz5=>.br (!z5.2.1) q2_ (.lf Ay (y2.2.1,z5.1,true,()));.br (decide (q1_>0)) (.ob ((0:Int)<=(0:Int)/\(0:Int)<q1_)<|.ob (0<y2.1.length)<|.cl fCutPre (y2.1.getD 0 default,(⟨#[105,109,112,111,114,116,32]⟩:ByteArray),()) λz3=>.br (!z3.2.1) q0_ (.cl fParseAddr (z3.1,b,()) λz6=>.br (!z6.2.1) q2_ (.ob (True)<|.ob (Br (y2.2.1.length+[z6.1].length) 32)<|.ob ((0:Int)<=(1:Int)/\(1:Int)<=q1_)<|.ob (1+(y2.1.length-1)<=y2.1.length)<|.ob (Value.string s=Value.string s)<|.ob (Value.string b=Value.string b)<|.ob (bk2 (cut y2.1 1 (y2.1.length-1),(y2.2.1++[z6.1],())))<|.ok))) q0_) ?_;refine Ae ?_ λ_=>(Ai ?_ λ(y2:List ByteArray×List Sb_×PUnit) i2=>Ab (λh3=>Aa ?_ λ_=>Aa ?_ λ_=>Ae ?_ λ_=>(Ab (λh7=>Ae ?_ λ_=>(Ae ?_ λ_=>(Ab (λh10=>lfY ?_) (λh10=>lfY ?_)))) (λh7=>Ae ?_ λ_=>(Ab (λh12=>lfY ?_) (λh12=>Aa trivial λ_=>Aa ?_ λ_=>Aa ?_ λ_=>Aa ?_ λ_=>Aa rfl λ_=>Aa rfl λ_=>Aa ?_ λ_=>trivial))))) (λh3=>Ae ?_ λ_=>(Ae ?_ λ_=>(Ab (λh19=>lfY ?_) (λh19=>lfY ?_)))))
 all_goals
  have hp1:s.size<=4000000000/\b.size<=4000000000:=hp;try simp only[B2,fCutPre,L6,fParseAddr,Ay,AC,EG,std,Nat.reduceAdd] at *
 all_goals first|trivial|omega|skip
 all_goals try simp only[show(#[59]:Array UInt8).getD 0 0=59 from rfl,AbW,XR,I6,WH] at *
 all_goals first|omega|exact Af3 s b|(have hz:=i2.2;have hgl:=Ahw y2.1;have hlen:=Ac Af y2.1)
 all_goals try (have hw:=DZ Af (l:=y2.1) (i:=0) o_;simp only[Af] at hw)
 all_goals by_cases hi:hasImp (y2.1.getD 0 default)
 all_goals first|simp only[Qa1 hi,reduceCtorEq] at * | simp only[Qa3 hi,reduceCtorEq] at * | skip
 all_goals
  try contradiction
  try have hxx:((y2.1.getD 0 default).extract 7 (y2.1.getD 0 default).size).size<=4000000000:=by(rw[Qc1];omega)
 all_goals first|omega|exact⟨o_,o_⟩|exact⟨o_,by decide⟩|skip
 all_goals first|(rw[Yz i2 o_ hi ‹_›];exact⟨rfl,rfl,rfl⟩)|(rw[XW i2 (by first|exact .inl o_|exact .inr hi)];(first|rw[Qa1 ‹_›]|rw[Qa3 (by intro q;exact tf q ‹_›)]);exact⟨rfl,by first|rfl|assumption,rfl⟩)|exact⟨Abc i2 o_ hi ‹_›,by rw[Qe3];omega⟩)
def LS {p:Sa_} {a:Sb_} (h:0<=findMod p.bh a) (h1:(p.bh.getD (findMod p.bh a).toNat default).done=true) (h2:(p.bh.getD (findMod p.bh a).toNat default).code=1):imports p a=((parseModule (p.bh.getD (findMod p.bh a).toNat default).body a.host).1,(parseModule (p.bh.getD (findMod p.bh a).toNat default).body a.host).2.2):=by
 unfold imports;rw[Qa3];rintro(q|q|q)
 ·omega
 ·exact tf h1 q
 ·exact q h2
def KQ {p:Sa_} {a:Sb_} (h:0<=findMod p.bh a) (h1:(p.bh.getD (findMod p.bh a).toNat default).done=true) (h2:(p.bh.getD (findMod p.bh a).toNat default).code=1):(parseModule (p.bh.getD (findMod p.bh a).toNat default).body a.host).1=(imports p a).1:=by rw[LS h h1 h2]
def JU {p:Sa_} {a:Sb_} (h:findMod p.bh a<0\/(p.bh.getD (findMod p.bh a).toNat default).done=false\/¬ (p.bh.getD (findMod p.bh a).toNat default).code=1):imports p a=([],false):=by unfold imports;rw[Qa1 h]
def AaE {p:Sa_} {a:Sb_} {s o:List Sb_} (h:inL s a=false) (hi:(imports p a).1=[]):visit p a (s,o)=(s++[a],o++[a]):=by
 rw[Uy (st:=(s,o)) h,hi];rfl
def Fu:GS:=⟨[.l (.v (.el .page)),.l (.v (.el .addr)),.b (.sl .addr),.b (.sl .addr)],[],λ(x_:Sa_×Sb_×(List Sb_)×(List Sb_)×Unit)=>okVis x_.1 x_.2.1 x_.2.2.1 x_.2.2.2.1,λ(x_:Sa_×Sb_×(List Sb_)×(List Sb_)×Unit)=>((()),((visit x_.1 x_.2.1 (x_.2.2.1,x_.2.2.2.1)).1,(visit x_.1 x_.2.1 (x_.2.2.1,x_.2.2.2.1)).2,()))⟩
abbrev By (p:Sa_) (a:Sb_) (s:(List Sb_)) (o:(List Sb_)):LInv:=⟨[⟨.s,64,true,.el .int⟩,⟨.b,2,true,.sl .addr⟩,⟨.b,3,true,.sl .addr⟩,⟨.b,4,false,.el .page⟩,⟨.b,5,true,.el .addr⟩,⟨.s,62,true,.sl .addr⟩],λ(z_ x_:Int×(List Sb_)×(List Sb_)×Sa_×Sb_×(List Sb_)×Unit)=>(((visInv p a s o x_.2.1 x_.2.2.1 x_.1)/\x_.2.2.2.1=z_.2.2.2.1)/\x_.2.2.2.2.1=z_.2.2.2.2.1)/\x_.2.2.2.2.2.1=z_.2.2.2.2.2.1,λ(x_:Int×(List Sb_)×(List Sb_)×Sa_×Sb_×(List Sb_)×Unit)=>(imports p a).1.length-x_.1.toNat⟩
def Ak8:=AjQ.G Fu<|GS.ofRec (S:=Fu) (L:=λ⟨p,a,s,o,_⟩=>λ|7=>some (By p a s o)|_=>none) (kp:=[2,3,4,5,8,9,13,18,48,62,63,64,65,1000018,1000048,1000065]) mVis AjQ.2 func431 k_ k_ (by
 intro n0;rintro⟨(p:Sa_),(a:Sb_),(s:List Sb_),(o:List Sb_),_⟩ hp hm;refine ho (let q0_:Out:=.ob (True)<|.ob (Br (o.length+[a].length) 32)<|GS.out Fu ((()),(s++[a],o++[a],()));.cl C2 (s,a,()) λz2=>.br (z2.1) (GS.out Fu ((()),(s,o,()))) (.ob (True)<|.ob (Br (s.length+[a].length) 32)<|.cl fModAt (p,a,()) λ(z3:Int×PUnit)=>let q2_:=inB z3.1 p.bh.length;let q1_:=p.bh.getD z3.1.toNat default;.br (decide (z3.1>=0)) (.ob q2_<|.br (q1_.done) (.ob q2_<|.br (q1_.code==1) (.ob q2_<|.cl Ay (q1_.body,a.host,()) λz4=>let q3_:=(z4.1.length:Int);lpx (By p a s o) ((0:Int),(s++[a],(o,(p,(a,(z4.1,())))))) λ(y12:Int×List Sb_×List Sb_×Sa_×Sb_×List Sb_×PUnit) bk12=>.br (decide (y12.1<q3_)) (.ob (inB y12.1 y12.2.2.2.2.2.1.length)<|.ob (y12.1.toNat<y12.2.2.2.2.2.1.length)<|.ob (Fu.pre (y12.2.2.2.1,y12.2.2.2.2.2.1.getD y12.1.toNat default,y12.2.1,y12.2.2.1,())/\mVis (y12.2.2.2.1,y12.2.2.2.2.2.1.getD y12.1.toNat default,y12.2.1,y12.2.2.1,())<n0)<|.lt _ (Fu.fn (y12.2.2.2.1,y12.2.2.2.2.2.1.getD y12.1.toNat default,y12.2.1,y12.2.2.1,())) λz5=>.ob (Value.int IntKind.i64 z3.1=Value.int IntKind.i64 z3.1)<|.ob (Value.int IntKind.i64 q3_=Value.int IntKind.i64 q3_)<|.ob (bk12 (w1 y12.1,(z5.2.1,(z5.2.2.1,(y12.2.2.2.1,(y12.2.2.2.2.1,(y12.2.2.2.2.2.1,())))))))<|.ok) (.ob (True)<|.ob (Br (y12.2.2.1.length+[y12.2.2.2.2.1].length) 32)<|GS.out Fu ((()),(y12.2.1,y12.2.2.1++[y12.2.2.2.2.1],())))) q0_) q0_) q0_)) ?_;repeat' first|(guard_target =~ Out.holds _ _;first|refine Ai (li:=By p a s o) ?_ λ(y12:Int×List Sb_×List Sb_×Sa_×Sb_×List Sb_×PUnit) i12=>?_|refine GS.leafY ?_|refine Ab (λ_=>?_) λ_=>?_|refine Ae ?_ λ_=>?_|refine Aa ?_ λ_=>?_|refine DU ?_)|exact trivial
 all_goals have hq:okVis p a s o:=hp
 all_goals obtain⟨p1,p2,p3,p4,p5⟩:=(show okVis p a s o from hp)
 all_goals
  have hsl:s.length<=100000000000:=by(simp only[totV] at p4;omega)
  have hil:=IB a p2;have hfm:=B7 p.bh a;try simp only[Hv] at *
  try simp only[By,C2,fModAt,Ay,Fu,std,Nat.reduceAdd,Ix,OQ] at *
 all_goals first|trivial|omega|skip
 all_goals first|(rw[QS ‹_›];exact⟨rfl,rfl⟩)|exact⟨p2 _ o_,p3⟩|skip
 all_goals first|(have hI1:=KQ (p:=p) (a:=a) o_ ‹_› ‹_›)|(have hI2:(imports p a).1=[]:=by rw[JU (by first|exact .inl o_|exact .inr (.inl ‹_›)|exact .inr (.inr ‹_›))])
 all_goals first|(rw[AaE ‹_› hI2];exact⟨rfl,rfl⟩)|exact UK p a s o p5|(obtain⟨⟨⟨i1,e1⟩,e2⟩,e3⟩:=i12;simp only[e1,e2,e3,hI1] at *)
 all_goals
  have i2:=i1.1;have i3:=Oi i1 hq
 all_goals first|trivial|omega|exact⟨i2,‹_›⟩|skip
 all_goals first|exact⟨(Ii i1 ‹_› ‹_› hq).1,Qf3 (Ii i1 ‹_› ‹_› hq).2 (Nat.le_of_lt_succ hm)⟩|(rw[Ag o_];simp only[Qe8];exact⟨Rb i1 ‹_›,o_⟩)|(rw[<-NO i1 o_ ‹_›];exact⟨rfl,rfl⟩))
def AmQ:=Ak8.a BP<|Fct.o [2,3,4,5,6] Ak8.2 func393 (by
 rintro⟨(p:Sa_),(a:Sb_),_⟩ hp;refine ho (.ob (Fu.pre (p,a,[],[],()))<|.lt _ (Fu.fn (p,a,[],[],())) λz2=>.lf BP (z2.2.2.1,())) ?_;refine Aa ?_ λ_=>DU (lfY ?_)
 all_goals try simp only[BP,Fu,std,Nat.reduceAdd] at *
 all_goals first|assumption|rfl|skip)
abbrev Cf (p:Sa_) (a:Sb_):LInv:=⟨[⟨.s,12,true,.el .int⟩,⟨.b,2,false,.el .page⟩,⟨.s,10,true,.sl .addr⟩],λ(z_ x_:Int×Sa_×(List Sb_)×Unit)=>((0<=x_.1/\x_.1<=(reachOf p a).length/\((reachOf p a).drop x_.1.toNat).all (λb=>decide (0<=findMod p.bh b)&&(p.bh.getD (findMod p.bh b).toNat default).done)=graphReady p a)/\x_.2.1=z_.2.1)/\x_.2.2.1=z_.2.2.1,λ(x_:Int×Sa_×(List Sb_)×Unit)=>(reachOf p a).length-x_.1.toNat⟩
def AnA:=AmQ.a Bp<|Fct.p (KP [2,3,4,6,7,10,11,12] [13,29]) (λ⟨p,a,_⟩=>lv [(2,Cf p a)]) AmQ.2 func343 (by
 rintro⟨(p:Sa_),(a:Sb_),_⟩ hp;refine ho (.cl BP (p,a,()) λz2=>lpx (Cf p a) ((0:Int),(p,(z2.1,()))) λ(y2:Int×Sa_×List Sb_×PUnit) bk2=>.br (decide (y2.1<(z2.1.length:Int))) (.ob (inB y2.1 y2.2.2.1.length)<|.ob (y2.1.toNat<y2.2.2.1.length)<|.cl fModAt (y2.2.1,y2.2.2.1.getD y2.1.toNat default,()) λ(z3:Int×PUnit)=>.br (decide (z3.1<0)) (.lf Bp (false,())) (.ob (inB z3.1 y2.2.1.bh.length)<|.br (!(y2.2.1.bh.getD z3.1.toNat default).done) (.lf Bp (false,())) (.ob (Value.int IntKind.i64 (z2.1.length:Int)=Value.int IntKind.i64 (z2.1.length:Int))<|.ob (bk2 (w1 y2.1,(y2.2.1,(y2.2.2.1,()))))<|.ok))) (.lf Bp (true,()))) ?_;refine Ae ?_ λ_=>(Ai ?_ λ(y2:Int×Sa_×List Sb_×PUnit) i2=>Ab (λh3=>Aa ?_ λ_=>Aa ?_ λ_=>Ae ?_ λ_=>(Ab (λh7=>lfY ?_) (λh7=>Aa ?_ λ_=>Ab (λh9=>lfY ?_) (λh9=>Aa rfl λ_=>Aa ?_ λ_=>trivial)))) (λh3=>lfY ?_))
 all_goals obtain⟨p1,p2,p3,p4,p5⟩:=(show okVis p a [] [] from hp)
 all_goals
  have hl:=HT (a:=a) p4;try simp only[Hv] at *
  try simp only[Cf,Bp,fModAt,BP,std,Nat.reduceAdd,Ix] at *
 all_goals first|trivial|omega|exact⟨p1,p2,p3,p4,p5⟩|exact⟨o_,o_,rfl⟩|skip
 all_goals (obtain⟨⟨⟨i0,i1,i3⟩,e1⟩,e2⟩:=i2;simp only[e1,e2] at *)
 all_goals have hf:=B7 p.bh ((reachOf p a).getD y2.1.toNat default)
 all_goals first|assumption|omega|skip
 all_goals first|(rw[W9 o_] at i3;exact i3)|rw[Adn o_] at i3
 all_goals first|(rw[<-i3,Qg5 o_];rfl)|(rw[<-i3,Qf1 o_,show Sg_.done _=false from ‹_›];rfl)|(rw[Qf1 o_,show Sg_.done _=true from ‹_›,Bool.true_and,Bool.true_and] at i3;rw[Ag o_,show(y2.1+1).toNat=y2.1.toNat+1 from o_];simp only[Qe8];exact⟨⟨o_,o_,i3⟩,o_⟩))
abbrev Ch (p:Sa_) (a:Sb_):LInv:=⟨[⟨.s,15,true,.el .int⟩,⟨.b,2,false,.el .page⟩,⟨.s,13,true,.sl .addr⟩],λ(z_ x_:Int×Sa_×(List Sb_)×Unit)=>((0<=x_.1/\x_.1<=(reachOf p a).length/\((reachOf p a).drop x_.1.toNat).any (λb=>!(imports p b).2)=graphFails p a)/\x_.2.1=z_.2.1)/\x_.2.2.1=z_.2.2.1,λ(x_:Int×Sa_×(List Sb_)×Unit)=>(reachOf p a).length-x_.1.toNat⟩
def An1:=AnA.a B1<|Fct.p (KP [2,3,4,6,7,10,13,14,15] [16,41,56]) (λ⟨p,a,_⟩=>lv [(2,Ch p a)]) AnA.2 func394 (by
 rintro⟨(p:Sa_),(a:Sb_),_⟩ hp;refine ho (let q0_:Out:=.lf B1 (true,());.cl BP (p,a,()) λz2=>let q3_:=(z2.1.length:Int);lpx (Ch p a) ((0:Int),(p,(z2.1,()))) λ(y2:Int×Sa_×List Sb_×PUnit) bk2=>.br (decide (y2.1<q3_)) (.ob (inB y2.1 y2.2.2.1.length)<|.ob (y2.1.toNat<y2.2.2.1.length)<|.cl fModAt (y2.2.1,y2.2.2.1.getD y2.1.toNat default,()) λ(z3:Int×PUnit)=>let q2_:=inB z3.1 y2.2.1.bh.length;let q1_:=y2.2.1.bh.getD z3.1.toNat default;.br (decide (z3.1<0)) q0_ (.ob q2_<|.br (!q1_.done) q0_ (.ob q2_<|.br (q1_.code != 1) q0_ (.ob q2_<|.cl Ay (q1_.body,(y2.2.2.1.getD y2.1.toNat default).host,()) λz4=>.br (!z4.2.2.1) q0_ (.ob (Value.int IntKind.i64 q3_=Value.int IntKind.i64 q3_)<|.ob (bk2 (w1 y2.1,(y2.2.1,(y2.2.2.1,()))))<|.ok))))) (.lf B1 (false,()))) ?_;refine Ae ?_ λ_=>(Ai ?_ λ(y2:Int×Sa_×List Sb_×PUnit) i2=>Ab (λh3=>Aa ?_ λ_=>Aa ?_ λ_=>Ae ?_ λ_=>(Ab (λh7=>lfY ?_) (λh7=>Aa ?_ λ_=>Ab (λh9=>lfY ?_) (λh9=>Aa ?_ λ_=>Ab (λh11=>lfY ?_) (λh11=>Aa ?_ λ_=>Ae ?_ λ_=>(Ab (λh14=>lfY ?_) (λh14=>Aa rfl λ_=>Aa ?_ λ_=>trivial))))))) (λh3=>lfY ?_))
 all_goals obtain⟨p1,p2,p3,p4,p5⟩:=(show okVis p a [] [] from hp)
 all_goals
  have hl:=HT (a:=a) p4;try simp only[Hv] at *
  try simp only[Ch,B1,fModAt,Ay,BP,std,Nat.reduceAdd,Ix] at *
 all_goals first|trivial|omega|exact⟨p1,p2,p3,p4,p5⟩|exact⟨o_,o_,rfl⟩|skip
 all_goals (obtain⟨⟨⟨i0,i1,i3⟩,e1⟩,e2⟩:=i2;simp only[e1,e2] at *)
 all_goals have hf:=B7 p.bh ((reachOf p a).getD y2.1.toNat default)
 all_goals first|assumption|omega|exact⟨p2 _ o_,H4 (A7 o_) p3⟩|skip
 all_goals first|(rw[X7 o_] at i3;exact i3)|rw[AdU o_] at i3
 all_goals first|(rw[JU (by first|exact .inl o_|exact .inr (.inl ‹_›)|exact .inr (.inr ‹_›))] at i3;rw[<-i3];rfl)|(rw[LS o_ ‹_› ‹_›] at i3;first|(rw[<-i3];dsimp only;rw[show Prod.snd (Prod.snd (parseModule _ _))=false from ‹_›];rfl)|(dsimp only at i3;rw[show Prod.snd (Prod.snd (parseModule _ _))=true from ‹_›,Bool.not_true,Bool.false_or] at i3;rw[Ag o_,show(y2.1+1).toNat=y2.1.toNat+1 from o_];simp only[Qe8];exact⟨⟨o_,o_,i3⟩,o_⟩)))
open Go.RowKit Go.Lib Go.Sort in
def Qg (w:World):(callFunc 505 #[]).run Tryz.prog w=.ok (.value (.tuple #[])) w:=run_call_mark0 func505 k_ k_ k_ .disable k_ w
open Go.RowKit Go.Lib Go.Sort in
def T9 (w:World):(callFunc 507 #[]).run Tryz.prog w=.ok (.value (.tuple #[])) w:=run_call_mark0 func507 k_ k_ k_ .enable k_ w
open Go.RowKit Go.Lib Go.Sort in
def ZU (a:Addr) (w:World):(callFunc 508 #[.pointer (some a)]).run Tryz.prog w=.ok (.value (.tuple #[])) w:=run_call_marked func508 k_ k_ k_ .acquire k_ a w
open Go.RowKit Go.Lib Go.Sort in
def ZI (a:Addr) (w:World):(callFunc 510 #[.pointer (some a)]).run Tryz.prog w=.ok (.value (.tuple #[])) w:=run_call_marked func510 k_ k_ k_ .releaseMerge k_ a w
open Go.RowKit Go.Lib Go.Sort in
def AeT (a:Addr) (x:Value) (u:FrameMode) (w:World) (hc:w.cell? a=some x) (hz:w.frozen? a=false) :
 CallsD Tryz.prog 489 #[.pointer (some a),.bool true] u w λe u' w'=>u'=u/\(e=.returned (.tuple #[])/\w'=w.drew.setCell a (.int .u32 1)):=by
 have hc':w.drew.cell? a=some x:=by go_simp
 have hz':w.drew.frozen? a=false:=by go_simp
 have hst:=run_call_store (P:=Tryz.prog) func499 k_ k_ k_ k_ (k:=.u32) (y:=1) hc' hz'
 go_enter_d func489,Tryz.ntmps489
 go_wp2
 go_region_calls
 all_goals (go_end0;exact⟨rfl,rfl⟩)
open Go.RowKit Go.Lib Go.Sort in
def Abe (a:Addr) (u:FrameMode) (w:World) (hc:w.cell? a=some (.int .i32 1)) (hz:w.frozen? a=false) :
 CallsD Tryz.prog 488 #[.pointer (some a)] u w λe u' w'=>u'=u/\(e=.returned (.tuple #[])/\w'=w.setCell a (.int .i32 0)):=by
 have hd:=Qg;have he:=T9;have hr:=ZI;have hadd:=run_call_add (P:=Tryz.prog) func511 k_ k_ k_ .i32 k_ (y:=-1) (s:=0) hc hz (by simp[go_sem];rfl);have hcv:=run_convert_to_unsafe (P:=Tryz.prog) (src:=485) (dst:=360) Tryz.underlying485 Tryz.underlying360 k_ hc
 go_enter_d func488,Tryz.ntmps488
 go_wp2
 try go_end0
 go_wp2
 all_goals (try go_end0)
 all_goals exact⟨rfl,rfl⟩
open Go.RowKit Go.Lib Go.Sort in
def Ahu (a:Addr) (w:World) (hc:w.cell? a=some (.int .i32 0)) (hz:w.frozen? a=false) :
 Calls Tryz.prog 487 #[.pointer (some a)] w λe w'=>e=.returned (.tuple #[])/\w'=w.setCell a (.int .i32 1):=by
 have hd:=Qg;have he:=T9;have ha:=ZU;have hcas:=run_call_cas_hit (P:=Tryz.prog) func506 k_ k_ k_ .i32 k_ (y:=1) hc hz;have hc':(w.setCell a (.int .i32 1)).cell? a=some (.int .i32 1):=World.cell?_setCell_same w a _ hc;have hcv:=run_convert_to_unsafe (P:=Tryz.prog) (src:=485) (dst:=360) Tryz.underlying485 Tryz.underlying360 k_ hc'
 go_enter func487,Tryz.ntmps487
 go_wp2
 first|go_end0|(simp only[Exit.inBlock,Exit.then];refine bodyPost_ret (results_none rfl _ _ _) rfl ?_)|refine bodyPost_ret (results_none rfl _ _ _) rfl ?_
 go_wp2
 all_goals (try go_end0)
 all_goals exact⟨rfl,rfl⟩
open Go.RowKit Go.Lib Go.Sort in
def Ad2:Tryz.zeroCells454=Array.replicate 256 (.int .u8 0):=k_
open Go.RowKit Go.Lib Go.Sort in
def Aih (w:World):(storeCells ⟨w.heap.size,0,none⟩ Tryz.zeroCells454.toList 0).run Tryz.prog (w.alloc (.cells Tryz.zeroCells454 454))=.ok () (w.alloc (.cells Tryz.zeroCells454 454)):=run_storeCells_new (P:=Tryz.prog) w 454 Tryz.zeroCells454 Tryz.zeroCells454 k_ rfl k_
open Go.RowKit Go.Lib Go.Sort in
def Agb (b c cap:Nat) (w:World) (h4:w.cell? ⟨b,4,none⟩=some (.slice (some ⟨c,0,none⟩) 4 cap)) (c0:w.cell? ⟨c,0,none⟩=some (.string ⟨#[91]⟩)) (c1:w.cell? ⟨c,1,none⟩=some (.string ⟨#[60]⟩)) (c2:w.cell? ⟨c,2,none⟩=some (.string ⟨#[93]⟩)) (c3:w.cell? ⟨c,3,none⟩=some (.string ⟨#[62]⟩)) (hbw:b<w.heap.size) (hcw:c<w.heap.size) :
 Calls Tryz.prog 476 #[.pointer (some ⟨b,0,none⟩)] w λe w'=>e=.returned (.iface 455 (.pointer (some ⟨w.heap.size,0,none⟩)))/\∃ r:Array Value,w'=w.alloc (.cells r 454)/\r.size=256/\∀ t:Nat,t<256->r[t]? = some (.int .u8 (if t=91 then 60 else if t=93 then 62 else t)):=by
 have hsc:=Aih w;have hcv:∀ (r:Array Value) (j:Nat),(w.alloc (.cells r 454)).cell? ⟨c,j,none⟩=w.cell? ⟨c,j,none⟩:=λr j=>by rw[World.cell?_alloc_past _ _ _ hcw]
 go_enter func476,Tryz.ntmps476
 go_wp2
 refine wp_loop_rounds 3 ?_;repeat any_goals (rw[rounds_succ];go_wp2)
 go_loopw [61] (λvi wr=>∃ (i:Nat) (r:Array Value),vi=.int .i64 i/\i<=256/\r.size=256/\wr=w.alloc (.cells r 454)/\∀ t:Nat,t<256->r[t]? = some (.int .u8 (if t<i then t else 0))) (λvi _=>257-(RowKit.intOf vi).toNat)
 case atStart=>exact⟨0,Tryz.zeroCells454,rfl,o_,by rw[Ad2];simp,rfl,λt ht=>by rw[Ad2,Array.getElem?_replicate,Qa1 ht,Qa3 o_]⟩
 case round=>
  obtain⟨i,r,rfl,hi,hs,rfl,hr⟩:=hrel;by_cases h1:i<256
  ·have hcell:=Fg w r 454 i;have hfz:=OU w r 454 i;rw[hr i h1,Qa3 o_] at hcell;have hR:Hid (∀ t:Nat,t<256->r[t]? = some (.int .u8 (if t<i then t else 0))):=hr;have hx:IntKind.u8.wrap (i:Int)=i:=by simp[IntKind.wrap,IntKind.bits,IntKind.signed];omega
   clear hr
   go_wp2
   case roundEnd=>
    refine⟨⟨i+1,r.setIfInBounds i (.int .u8 i),rfl,h1,by rw[Array.size_setIfInBounds,hs],by first|rfl|(rw[hx];exact Sf _ _ _ _ _),λt ht=>?_⟩,by simp only[RowKit.intOf];omega⟩;rw[TT o_];by_cases he:t=i
    ·subst he;rw[Qa1 rfl,Qa1 o_]
    ·rw[Qa3 he,hR.out t ht];by_cases h3:t<i
     ·rw[Qa1 h3,Qa1 o_]
     ·rw[Qa3 h3,Qa3 o_]
  ·have hie:i=256:=o_
   subst hie;have hR:Hid (∀ t:Nat,t<256->r[t]? = some (.int .u8 (if t<256 then t else 0))):=hr;clear hr;have d0:=(hcv r 0).trans c0;have d1:=(hcv r 1).trans c1;have d2:=(hcv r 2).trans c2;have d3:=(hcv r 3).trans c3;have q1:((⟨#[93]⟩:ByteArray)[0]'(by decide)).toNat=93:=rfl;have q2:((⟨#[91]⟩:ByteArray)[0]'(by decide)).toNat=91:=rfl;have q3:((⟨#[62]⟩:ByteArray)[0]'(by decide)).toNat=62:=rfl;have q4:((⟨#[60]⟩:ByteArray)[0]'(by decide)).toNat=60:=rfl;have f1:=OU w r 454 93;have e1:=Fg w r 454 93;have s1:=Sf w r 454 93 (.int .u8 62);have f2:=OU w (r.setIfInBounds 93 (.int .u8 62)) 454 91;have e2:=Fg w (r.setIfInBounds 93 (.int .u8 62)) 454 91;have s2:=Sf w (r.setIfInBounds 93 (.int .u8 62)) 454 91 (.int .u8 60);rw[hR.out 93 o_,Qa1 o_] at e1;rw[TT o_,Qa3 o_,hR.out 91 o_,Qa1 o_] at e2;have g0:=(hcv (r.setIfInBounds 93 (.int .u8 62)) 0).trans c0;have g1:=(hcv (r.setIfInBounds 93 (.int .u8 62)) 1).trans c1
   go_wp2
   refine wp_loop_rounds 3 ?_;repeat any_goals (rw[rounds_succ];go_wp2)
   refine bodyPost_ret (results_tmp rfl _ _ _) rfl ?_;refine⟨rfl,_,rfl,by rw[Array.size_setIfInBounds,Array.size_setIfInBounds,hs],λt ht=>?_⟩;rw[TT (by rw[Array.size_setIfInBounds];omega),TT o_,hR.out t ht,Qa1 ht];by_cases h9:t=91
   ·rw[Qa1 h9,Qa1 h9]
   ·rw[Qa3 h9,Qa3 h9];by_cases h3:t=93
    ·rw[Qa1 h3,Qa1 h3]
    ·rw[Qa3 h3,Qa3 h3]
open Go.RowKit Go.Lib Go.Sort in
def mrow (r:Array Value):Prop:=r.size=256/\∀ t:Nat,t<256->r[t]? = some (.int .u8 (if t=91 then 60 else if t=93 then 62 else t))
open Go.RowKit in
structure MRep (w:World) (b c cap:Nat):Prop where
 v0:w.cell? ⟨b,0,none⟩=some (.int .u32 0)
 v1:w.cell? ⟨b,1,none⟩=some (.int .i32 0)
 v3:w.cell? ⟨b,3,none⟩=some .nilIface
 v4:w.cell? ⟨b,4,none⟩=some (.slice (some ⟨c,0,none⟩) 4 cap)
 f0:w.frozen? ⟨b,0,none⟩=false
 f1:w.frozen? ⟨b,1,none⟩=false
 f3:w.frozen? ⟨b,3,none⟩=false
 f4:w.frozen? ⟨b,4,none⟩=false
 c0:w.cell? ⟨c,0,none⟩=some (.string ⟨#[91]⟩)
 c1:w.cell? ⟨c,1,none⟩=some (.string ⟨#[60]⟩)
 c2:w.cell? ⟨c,2,none⟩=some (.string ⟨#[93]⟩)
 c3:w.cell? ⟨c,3,none⟩=some (.string ⟨#[62]⟩)
 lb:b<w.heap.size
 lc:c<w.heap.size
 ne:¬ c=b
open Go.RowKit Go.Lib Go.Sort in
def Ahk (b c cap:Nat) (w:World) (h3:∃ x,w.cell? ⟨b,3,none⟩=some x) (h4:w.cell? ⟨b,4,none⟩=some (.slice (some ⟨c,0,none⟩) 4 cap)) (f3:w.frozen? ⟨b,3,none⟩=false) (f4:w.frozen? ⟨b,4,none⟩=false) (c0:w.cell? ⟨c,0,none⟩=some (.string ⟨#[91]⟩)) (c1:w.cell? ⟨c,1,none⟩=some (.string ⟨#[60]⟩)) (c2:w.cell? ⟨c,2,none⟩=some (.string ⟨#[93]⟩)) (c3:w.cell? ⟨c,3,none⟩=some (.string ⟨#[62]⟩)) (hbw:b<w.heap.size) (hcw:c<w.heap.size) :
 Calls Tryz.prog 467 #[.pointer (some ⟨b,0,none⟩)] w λe w'=>e=.returned (.tuple #[])/\∃ r:Array Value,w'=((w.setCell ⟨b,3,none⟩ (.iface 455 (.pointer (some ⟨w.heap.size,0,none⟩)))).setCell ⟨b,4,none⟩ (.slice none 0 0)).alloc (.cells r 454)/\mrow r:=by
 obtain⟨x,h3⟩:=h3;have k3:∀ r,(w.alloc (.cells r 454)).cell? ⟨b,3,none⟩=some x:=λr=>by rw[World.cell?_alloc_past _ _ _ hbw];exact h3
 have k4:∀ r,(w.alloc (.cells r 454)).cell? ⟨b,4,none⟩=some (.slice (some ⟨c,0,none⟩) 4 cap):=λr=>by rw[World.cell?_alloc_past _ _ _ hbw];exact h4
 have g3:∀ r,(w.alloc (.cells r 454)).frozen? ⟨b,3,none⟩=false:=λr=>by rw[World.frozen?_alloc_past _ _ _ hbw];exact f3
 have g4:∀ r,(w.alloc (.cells r 454)).frozen? ⟨b,4,none⟩=false:=λr=>by rw[World.frozen?_alloc_past _ _ _ hbw];exact f4
 go_enter func467,Tryz.ntmps467
 go_wp2_with (go_at_call 476;refine(Agb b c cap w h4 c0 c1 c2 c3 hbw hcw).mono ?_;rintro e w' ⟨rfl,r,rfl,hr⟩)
 go_wp2
 try go_end0
 exact⟨rfl,r,rfl,hr⟩
open Go.RowKit Go.Lib Go.Sort in
def mW (w:World) (b:Nat) (r:Array Value):World:=(((((w.setCell ⟨b,1,none⟩ (.int .i32 1)).setCell ⟨b,3,none⟩ (.iface 455 (.pointer (some ⟨w.heap.size,0,none⟩)))).setCell ⟨b,4,none⟩ (.slice none 0 0)).alloc (.cells r 454)).drew.setCell ⟨b,0,none⟩ (.int .u32 1)).setCell ⟨b,1,none⟩ (.int .i32 0)
open Go.RowKit Go.Lib Go.Sort in
def Ahi (b c cap:Nat) (w:World) (H:MRep w b c cap) :
 Calls Tryz.prog 475 #[.pointer (some ⟨b,0,none⟩),.func (.func 467) #[.pointer (some ⟨b,0,none⟩)] #[]] w λe w'=>e=.returned (.tuple #[])/\∃ r:Array Value,mrow r/\w'=mW w b r:=by
 obtain⟨v0,v1,v3,v4,f0,f1,f3,f4,c0,c1,c2,c3,lb,lc,ne⟩:=H;have oth:∀ (a:Addr) (v:Value) (d:Addr),d≠a->(w.setCell a v).cell? d=w.cell? d:=λa v d h=>World.cell?_setCell_other _ a d v (λe=>h e.symm)
 have n1:∀ j:Nat,(⟨c,j,none⟩:Addr)≠⟨b,1,none⟩:=λj h=>ne (congrArg Addr.block h)
 have hl:=run_call_load (P:=Tryz.prog) func486 k_ k_ k_ .u32 k_ (w:=w.setCell ⟨b,1,none⟩ (.int .i32 1)) (a:=⟨b,0,none⟩) (x:=0) ((oth _ _ _ (by simp)).trans v0);have hnot:∀ (x:Bool) (w:World),(Op.unary .not (.bool x)).run Tryz.prog w=.ok (.bool (!x)) w:=λ_ _=>rfl
 go_enter_defers func475,Tryz.ntmps475
 have o1:∀ d:Addr,d≠⟨b,1,none⟩->(w.setCell ⟨b,1,none⟩ (.int .i32 1)).cell? d=w.cell? d:=λd h=>oth _ _ d h
 have fz:∀ (v:Value) (d:Addr),(w.setCell ⟨b,1,none⟩ v).frozen? d=w.frozen? d:=λv d=>World.frozen?_setCell _ _ _ _
 go_wp2_with (first
  | (go_at_call 487;refine(Ahu ⟨b,1,none⟩ _ (by go_simp) (by go_simp)).mono ?_;rintro e w' ⟨rfl,rfl⟩)
  | (go_at_call 474;go_in))
 refine(Ahk b c cap (w.setCell ⟨b,1,none⟩ (.int .i32 1)) ⟨_,(o1 _ (by simp)).trans v3⟩ ((o1 _ (by simp)).trans v4) ((fz _ _).trans f3) ((fz _ _).trans f4) ((o1 _ (n1 0)).trans c0) ((o1 _ (n1 1)).trans c1) ((o1 _ (n1 2)).trans c2) ((o1 _ (n1 3)).trans c3) (by rw[World.size_setCell];exact lb) (by rw[World.size_setCell];exact lc)).mono ?_;rintro e w' ⟨rfl,r,rfl,hr⟩
 go_wp2
 refine leaves_cons (f:=489) (args := #[.pointer (some ⟨b,0,none⟩),.bool true]) (by simp) (by simp[go_sem]) ?_;refine(AeT ⟨b,0,none⟩ (.int .u32 0) .returning _ ?_ (by rw[World.frozen?_alloc_past _ _ _ (by simpa using lb),World.frozen?_setCell,World.frozen?_setCell,World.frozen?_setCell];exact f0)).mono ?_
 ·rw[World.cell?_alloc_past _ _ _ (by simpa using lb),World.cell?_setCell_other _ _ _ _ (by simp),World.cell?_setCell_other _ _ _ _ (by simp),World.cell?_setCell_other _ _ _ _ (by simp)];exact v0
 rintro e u' w'' ⟨rfl,rfl,rfl⟩;refine leaves_cons (f:=488) (args := #[.pointer (some ⟨b,1,none⟩)]) (by simp[settle]) (by simp[go_sem]) ?_;refine(Abe ⟨b,1,none⟩ _ _ ?_ (by rw[World.frozen?_setCell,World.frozen?_drew,World.frozen?_alloc_past _ _ _ (by simpa using lb),World.frozen?_setCell,World.frozen?_setCell,World.frozen?_setCell];exact f1)).mono ?_
 ·rw[World.cell?_setCell_other _ _ _ _ (by simp),World.cell?_drew,World.cell?_alloc_past _ _ _ (by simpa using lb),World.cell?_setCell_other _ _ _ _ (by simp),World.cell?_setCell_other _ _ _ _ (by simp)];exact World.cell?_setCell_same w _ _ v1
 rintro e u' w'' ⟨rfl,rfl,rfl⟩;simp[Leaves,settle,results,Tryz.results475];exact⟨r,hr,rfl⟩
open Go.RowKit Go.Lib Go.Sort in
def Ae1 (x:UInt8):((mk8 x).toNat:Int)=(if x.toNat=91 then(60:Int) else if x.toNat=93 then 62 else(x.toNat:Int)):=by
 unfold mk8;by_cases h:x=91
 ·subst h;rfl
 ·have h':¬ x.toNat=91:=λe=>h (UInt8.toNat_inj.1 e)
  rw[Qa3 h,Qa3 h'];by_cases h2:x=93
  ·subst h2;rfl
  ·have h3:¬ x.toNat=93:=λe=>h2 (UInt8.toNat_inj.1 e)
   rw[Qa3 h2,Qa3 h3]
open Go.RowKit Go.Lib Go.Sort in
def Ah3 (k:Nat) (s:ByteArray) (hs1:s.size<=1000000000000) (w:World) (hkw:k<w.heap.size) (hk:∀ x:UInt8,w.cell? ⟨k,x.toNat,none⟩=some (.int .u8 (mk8 x).toNat)) :
 Calls Tryz.prog 547 #[.pointer (some ⟨k,0,none⟩),.string s] w λe w'=>e=.returned (.string (markup s))/\(w'=w\/∃ dk,dk.size=s.data.size/\w'=putRow enc8 (bytesWorld w 5 s) w.heap.size 0 dk):=by
 have hcv:=λ(w:World)=>Lib.run_convert_string_bytes w 9 181 5 s Tryz.underlying9 Tryz.underlying181 Tryz.underlying5
 have hH:=Ma w 5 s;have hsz:s.data.size=s.size:=rfl;have qT:∀ (w:World) (a:Option Addr) (n c n' c':Nat),(binOp .eql 181 (.slice a n c) (.slice none n' c')).run Tryz.prog w=.ok (.bool a.isNone) w:=λw a n c n' c'=>Lib.run_eql_slice_nil w _ _ a n c n' c' Tryz.underlying181
 go_enter func547,Tryz.ntmps547
 go_wp2
 have hk1:∀ x:UInt8,(bytesWorld w 5 s).cell? ⟨k,x.toNat,none⟩=some (.int .u8 (mk8 x).toNat):=λx=>by rw[<-hk x];simp only[World.cell?,bytesWorld_at_old w 5 s k hkw]
 generalize hW1:bytesWorld w 5 s=W1 at *
 go_loopw [5,6] (λv5 vi wr=>∃ (i:Nat),vi=.int .i64 i/\i<=s.size/\((v5=.slice none 0 0/\wr=w/\∀ t,t<i->s.data[t]! = mk8 s.data[t]!) \/
  (∃ dk:Array UInt8,v5=.slice (some ⟨w.heap.size,0,none⟩) s.size (grownCap w s.size 0 5)/\dk.size=s.data.size/\wr=putRow enc8 W1 w.heap.size 0 dk/\∀ t,t<s.size->dk[t]! = if t<i then mk8 s.data[t]! else s.data[t]!))) (λ_ vi _=>s.size+1-(RowKit.intOf vi).toNat)
 case atStart=>exact⟨0,rfl,o_,.inl ⟨rfl,rfl,λt ht=>o_⟩⟩
 case round=>
  obtain⟨i,rfl,hi,hrel⟩:=hrel;by_cases h1:i<s.size
  ·have hxi:s.data[i]! = s[i]'h1:=by rw[getElem!_pos s.data i h1];rfl
   have hlt:=(s[i]'h1).toNat_lt;rcases hrel with⟨rfl,rfl,hd⟩|⟨dk,rfl,hsk,hw,hd⟩
   ·by_cases hm:mk8 (s[i]'h1)=s[i]'h1
    ·have hne:(((mk8 (s[i]'h1)).toNat:Int) != ((s[i]'h1).toNat:Int))=false:=by rw[hm];simp
     have hD:Hid (∀ t,t<i->s.data[t]! = mk8 s.data[t]!):=hd;clear hd
     go_wp2
     case roundEnd=>
      exact⟨⟨i+1,rfl,h1,.inl ⟨by first|rfl|trivial,by first|rfl|trivial,λt ht=>by
       by_cases e:t=i
       ·subst e;rw[hxi,hm]
       ·exact hD.out t o_⟩⟩,by simp only[RowKit.intOf];omega⟩
     all_goals (exfalso;omega)
    ·have hne:(((mk8 (s[i]'h1)).toNat:Int) != ((s[i]'h1).toNat:Int))=true:=by rw[bne_iff_ne];intro e;exact hm (UInt8.toNat_inj.1 (Int.ofNat.inj e))
     have hfz:=(hH i h1).2;have hcd:=(hH i h1).1;rw[Qd9] at hfz hcd;have hst:=putRow_set enc8 W1 wr.heap.size 0 s.data i (mk8 (s[i]'h1)) h1;rw[Qd9,putRow_self _ _ _ _ _ hH] at hst;dsimp only[enc8] at hcd hst;have hD:Hid (∀ t,t<i->s.data[t]! = mk8 s.data[t]!):=hd;have hS:Hid (_=_):=hst;clear hd hst hH
     go_wp2
     case roundEnd=>
      have st:=Ip (s:=s) (dk:=s.data) (y:=mk8 (s[i]'h1)) h1 rfl (λt ht=>by
       by_cases e:t<i
       ·rw[Qa1 e];exact hD.out t e
       ·rw[Qa3 e]) (by rw[hxi])
      exact⟨⟨i+1,rfl,h1,.inr ⟨s.data.setIfInBounds i (mk8 (s[i]'h1)),by first|rfl|trivial,st.1,hS.out,st.2⟩⟩,by simp only[RowKit.intOf];omega⟩
     all_goals (exfalso;omega)
   ·have hkr:∀ x:UInt8,wr.cell? ⟨k,x.toNat,none⟩=some (.int .u8 (mk8 x).toNat):=λx=>by rw[hw,cell?_putRow_other _ _ _ _ _ _ (.inl (by show k≠w.heap.size;omega))];exact hk1 x
    have hD:Hid (∀ t,t<s.size->dk[t]! = if t<i then mk8 s.data[t]! else s.data[t]!):=hd;have hW:Hid (wr=putRow enc8 W1 w.heap.size 0 dk):=hw;by_cases hm:mk8 (s[i]'h1)=s[i]'h1
    ·have hne:(((mk8 (s[i]'h1)).toNat:Int) != ((s[i]'h1).toNat:Int))=false:=by rw[hm];simp
     clear hd hw hH
     go_wp2
     case roundEnd=>
      exact⟨⟨i+1,rfl,h1,.inr ⟨dk,by first|rfl|trivial,hsk,hW.out,Um h1 hsk hD.out (by rw[hxi,hm])⟩⟩,by simp only[RowKit.intOf];omega⟩
     all_goals (exfalso;omega)
    ·have hne:(((mk8 (s[i]'h1)).toNat:Int) != ((s[i]'h1).toNat:Int))=true:=by rw[bne_iff_ne];intro e;exact hm (UInt8.toNat_inj.1 (Int.ofNat.inj e))
     have hcd:=cell?_putRow enc8 W1 w.heap.size 0 s.data dk hH hsk i o_;have hfz:wr.frozen? ⟨w.heap.size,0+i,none⟩=false:=by rw[hw,frozen?_putRow];exact(hH i o_).2
     rw[<-hw,Qd9] at hcd;rw[Qd9] at hfz;have hst:=putRow_set enc8 W1 w.heap.size 0 dk i (mk8 (s[i]'h1)) o_;rw[Qd9] at hst;dsimp only[enc8] at hcd hst;have hS:Hid (_=_):=hst;clear hd hw hst hH
     go_wp2
     case roundEnd=>
      have st:=Ip (s:=s) (dk:=dk) (y:=mk8 (s[i]'h1)) h1 hsk hD.out (by rw[hxi]);exact⟨⟨i+1,rfl,h1,.inr ⟨dk.setIfInBounds i (mk8 (s[i]'h1)),by first|rfl|trivial,st.1,by rw[hW.out];exact hS.out,st.2⟩⟩,by simp only[RowKit.intOf];omega⟩
     all_goals (exfalso;omega)
  ·have hie:i=s.size:=o_
   subst hie;rcases hrel with⟨rfl,rfl,hd⟩|⟨dk,rfl,hsk,hw,hd⟩
   ·have hfin:Hid (markup s=s):=by
     show markup s=s;unfold markup ofL;have:(toL s).map mk8=toL s:=by
      apply List.ext_getElem (by simp);intro k h2 h3;have hk:k<s.size:=by simpa [BQ] using h3
      have:=hd k hk;rw[getElem!_pos s.data k hk] at this;simp[toL,<-this]
     rw[this];exact DW s
    have hD:Hid _:=hd;clear hd
    go_wp2
    go_ret
    exact⟨by simp[hfin.out],.inl rfl⟩
   ·have hback:=run_convert_bytes_back (P:=Tryz.prog) wr 181 9 5 ⟨w.heap.size,0,none⟩ (grownCap w s.size 0 5) dk.toList Tryz.underlying181 Tryz.underlying5 Tryz.underlying9 (λj hj=>by
     have hj2:j<dk.size:=by simpa using hj
     have:=cell?_putRow enc8 W1 w.heap.size 0 s.data dk hH hsk j hj2;rw[<-hw] at this;rw[Addr.add_lit,this];simp[getElem!_pos dk j hj2])
    have hl:dk.toList.length=s.size:=by simpa using hsk
    rw[hl,hw] at hback;have hfin:markup s=⟨dk.toList.toArray⟩:=by
     unfold markup ofL;congr 2;apply List.ext_getElem (by simp[BQ,hl]);intro k h2 h3;have hk:k<s.size:=o_
     have:=hd k hk;rw[Qa1 hk,getElem!_pos dk k o_,getElem!_pos s.data k hk] at this;simp[toL,this]
    have hfin:Hid _:=hfin;have hw:Hid _:=hw
    go_wp2
    go_ret
    exact⟨by rw[hfin.out];simp,.inr ⟨dk,hsk,by rw[hW1];first|done|exact hw.out⟩⟩
open Go.RowKit Go.Lib Go.Sort in
def An5 (b c cap:Nat) (w:World) (H:MRep w b c cap) :
 Calls Tryz.prog 466 #[.pointer (some ⟨b,0,none⟩),.func (.func 467) #[.pointer (some ⟨b,0,none⟩)] #[]] w λe w'=>e=.returned (.tuple #[])/\∃ r:Array Value,mrow r/\w'=mW w b r:=by
 have h0:=H.v0;have hl:=run_call_load (P:=Tryz.prog) func486 k_ k_ k_ .u32 k_ h0;have hnot:∀ (x:Bool) (w:World),(Op.unary .not (.bool x)).run Tryz.prog w=.ok (.bool (!x)) w:=λ_ _=>rfl
 go_enter func466,Tryz.ntmps466
 go_wp2_with (first|(go_at_call 475;refine(Ahi b c cap _ H).mono ?_;rintro e w' ⟨rfl,r,hr,rfl⟩)|(go_at_call 474;go_in))
 try go_end0
 exact⟨rfl,r,hr,rfl⟩
open Go.RowKit Go.Lib Go.Sort in
def AeI (w:World) (b:Nat) (r:Array Value) (lb:b<w.heap.size) (x:Value) (v3:w.cell? ⟨b,3,none⟩=some x):(mW w b r).cell? ⟨b,3,none⟩=some (.iface 455 (.pointer (some ⟨w.heap.size,0,none⟩))):=by
 unfold mW;rw[World.cell?_setCell_other _ _ _ _ (by simp),World.cell?_setCell_other _ _ _ _ (by simp),World.cell?_drew,World.cell?_alloc_past _ _ _ (by simpa using lb),World.cell?_setCell_other _ _ _ _ (by simp)];exact World.cell?_setCell_same _ _ _ ((World.cell?_setCell_other _ _ _ _ (by simp)).trans v3)
open Go.RowKit Go.Lib Go.Sort in
def AgD (w:World) (b:Nat) (r:Array Value) (lb:b<w.heap.size) (t:Nat):(mW w b r).cell? ⟨w.heap.size,t,none⟩=r[t]?:=by
 have nb:∀ j:Nat,(⟨b,j,none⟩:Addr)≠⟨w.heap.size,t,none⟩:=λj h=>by have:=congrArg Addr.block h;simp at this;omega
 unfold mW;rw[World.cell?_setCell_other _ _ _ _ (nb _),World.cell?_setCell_other _ _ _ _ (nb _),World.cell?_drew];have e:=Fg (((w.setCell ⟨b,1,none⟩ (.int .i32 1)).setCell ⟨b,3,none⟩ (.iface 455 (.pointer (some ⟨w.heap.size,0,none⟩)))).setCell ⟨b,4,none⟩ (.slice none 0 0)) r 454 t;rw[World.size_setCell,World.size_setCell,World.size_setCell] at e;exact e
open Go.RowKit Go.Lib Go.Sort in
def Y2 (w:World) (b:Nat) (r:Array Value):(mW w b r).heap.size=w.heap.size+1:=by
 unfold mW;simp
open Go.RowKit Go.Lib Go.Sort in
def X6 (b c cap:Nat) (s:ByteArray) (hs:s.size<=1000000000000) (w:World) (H:MRep w b c cap) :
 Calls Tryz.prog 463 #[.pointer (some ⟨b,0,none⟩),.string s] w λe w'=>e=.returned (.string (markup s))/\∃ r,mrow r/\(w'=mW w b r\/∃ dk,w'=Go.Sort.putRow enc8 (Lib.bytesWorld (mW w b r) 5 s) (mW w b r).heap.size 0 dk):=by
 have hmf:∀ (fn:Fn) (first cap:Array Value) (w:World),(Instr.makeFunc fn first cap).run Tryz.prog w=.ok (.func fn first cap) w:=λ_ _ _ _=>rfl
 have H':Hid (MRep w b c cap):=H;clear H
 go_enter func463,Tryz.ntmps463
 go_wp2_with (first|(go_at_call 466;refine(An5 b c cap _ H'.out).mono ?_;rintro e w' ⟨rfl,r,hr,hw⟩;(have h3:w'.cell? ⟨b,3,none⟩=some (.iface 455 (.pointer (some ⟨w.heap.size,0,none⟩))):=by rw[hw];exact AeI w b r H'.out.lb _ H'.out.v3);(have hW:Hid (w'=mW w b r):=hw);(have hR:Hid (mrow r):=hr);clear hw hr))
 refine(Ah3 w.heap.size s hs w' (by rw[hW.out,Y2];omega) (λx=>by rw[hW.out,AgD _ _ _ H'.out.lb,hR.out.2 _ x.toNat_lt,Ae1])).mono ?_;rintro e w'' ⟨rfl,h⟩;have hh:Hid (w''=w'\/∃ dk,dk.size=s.data.size/\w''=Go.Sort.putRow enc8 (Lib.bytesWorld w' 5 s) w'.heap.size 0 dk):=h;clear h
 go_wp2
 go_ret
 refine⟨rfl,r,hR.out,?_⟩;rcases hh.out with h|⟨dk,_,h⟩
 ·exact .inl (h.trans hW.out)
 ·exact .inr ⟨dk,by rw[h,hW.out]⟩
open Go.RowKit Go.Lib Go.Sort in
def mN (w:World) (cap:Nat) (x:Array Value):World :=
 ((w.alloc (.cells (#[.string ⟨#[91]⟩,.string ⟨#[60]⟩,.string ⟨#[93]⟩,.string ⟨#[62]⟩]++x) 9)).alloc (.cells #[.int .u32 0,.int .i32 0,.int .u32 0,.nilIface,.slice (some ⟨w.heap.size,0,none⟩) 4 cap] 427)).drew
open Go.RowKit Go.Lib Go.Sort in
def AhY (a cap:Nat) (w:World) (c0:w.cell? ⟨a,0,none⟩=some (.string ⟨#[91]⟩)) (c1:w.cell? ⟨a,1,none⟩=some (.string ⟨#[60]⟩)) (c2:w.cell? ⟨a,2,none⟩=some (.string ⟨#[93]⟩)) (c3:w.cell? ⟨a,3,none⟩=some (.string ⟨#[62]⟩)) (la:a<w.heap.size) :
 Calls Tryz.prog 462 #[.slice (some ⟨a,0,none⟩) 4 cap] w λe w'=>e=.returned (.pointer (some ⟨w.heap.size+1,0,none⟩))/\∃ cap2 x,w'=mN w cap2 x:=by
 go_enter func462,Tryz.ntmps462
 go_wp2
 go_ret
 exact⟨rfl,_,_,rfl⟩
open Go.RowKit Go.Lib Go.Sort in
def Aak (w:World) (cap:Nat) (x:Array Value):(mN w cap x).heap.size=w.heap.size+2:=by unfold mN;simp
open Go.RowKit Go.Lib Go.Sort in
def Ag3 (w:World) (cap:Nat) (x:Array Value):MRep (mN w cap x) (w.heap.size+1) w.heap.size cap:=by
 have hb:∀ j,(mN w cap x).cell? ⟨w.heap.size+1,j,none⟩ = #[Value.int .u32 0,.int .i32 0,.int .u32 0,.nilIface,.slice (some ⟨w.heap.size,0,none⟩) 4 cap][j]?:=λj=>by unfold mN;rw[World.cell?_drew];have e:=Fg (w.alloc (.cells (#[.string ⟨#[91]⟩,.string ⟨#[60]⟩,.string ⟨#[93]⟩,.string ⟨#[62]⟩]++x) 9)) #[.int .u32 0,.int .i32 0,.int .u32 0,.nilIface,.slice (some ⟨w.heap.size,0,none⟩) 4 cap] 427 j;rw[World.size_alloc] at e;exact e
 have hf:∀ j,(mN w cap x).frozen? ⟨w.heap.size+1,j,none⟩=false:=λj=>by unfold mN;rw[World.frozen?_drew];have e:=OU (w.alloc (.cells (#[.string ⟨#[91]⟩,.string ⟨#[60]⟩,.string ⟨#[93]⟩,.string ⟨#[62]⟩]++x) 9)) #[.int .u32 0,.int .i32 0,.int .u32 0,.nilIface,.slice (some ⟨w.heap.size,0,none⟩) 4 cap] 427 j;rw[World.size_alloc] at e;exact e
 have hc:∀ j,(mN w cap x).cell? ⟨w.heap.size,j,none⟩=(#[.string ⟨#[91]⟩,.string ⟨#[60]⟩,.string ⟨#[93]⟩,.string ⟨#[62]⟩]++x)[j]?:=λj=>by unfold mN;rw[World.cell?_drew,World.cell?_alloc_past _ _ _ (by rw[World.size_alloc];omega)];exact Fg _ _ _ _
 have hl:∀ j (v:Value),#[Value.string ⟨#[91]⟩,.string ⟨#[60]⟩,.string ⟨#[93]⟩,.string ⟨#[62]⟩][j]? = some v->(#[Value.string ⟨#[91]⟩,.string ⟨#[60]⟩,.string ⟨#[93]⟩,.string ⟨#[62]⟩]++x)[j]? = some v:=λj v h=>by rw[Array.getElem?_append_left (by have:=(Array.getElem?_eq_some_iff.1 h).1;exact this)];exact h
 exact⟨hb 0,hb 1,hb 3,hb 4,hf 0,hf 1,hf 3,hf 4,(hc 0).trans (hl 0 _ rfl),(hc 1).trans (hl 1 _ rfl),(hc 2).trans (hl 2 _ rfl),(hc 3).trans (hl 3 _ rfl),by rw[Aak];omega,by rw[Aak];omega,o_⟩
open Go.RowKit Go.Lib Go.Sort in
def Ahj {w w':World} (h:Neu w w') (cap:Nat) (x:Array Value):Neu w (mN w' cap x):=by
 unfold mN;exact((h.alloc _).alloc _).drew
open Go.RowKit Go.Lib Go.Sort in
def AdO {w w':World} (h:Neu w w') {b:Nat} (hb:w.heap.size<=b) (r:Array Value):Neu w (mW w' b r):=by
 unfold mW;exact((((((h.set (a:=⟨b,1,none⟩) hb _).set (a:=⟨b,3,none⟩) hb _).set (a:=⟨b,4,none⟩) hb _).alloc _).drew).set (a:=⟨b,0,none⟩) hb _).set (a:=⟨b,1,none⟩) hb _
open Go.RowKit Go.Lib Go.Sort in
def Abb (s:ByteArray) (hs:s.size<=1000000000000) (w:World) :
 Calls Tryz.prog 454 #[.string s] w λe w'=>e=.returned (.string (markup s))/\Neu w w':=by
 go_enter func454,Tryz.ntmps454
 go_wp2_with (fail)
 refine(AhY w.heap.size 4 _ ?_ ?_ ?_ ?_ ?_).mono ?_
 ·rw[Fg];rfl
 ·rw[Fg];rfl
 ·rw[Fg];rfl
 ·rw[Fg];rfl
 ·rw[World.size_alloc];omega
 rintro e w' ⟨rfl,cap,x,hw⟩;have hW:Hid _:=hw;have hR:Hid (MRep w' (w.heap.size+2) (w.heap.size+1) cap):=by have:=Ag3 (w.alloc (Obj.cells #[.string ⟨#[91]⟩,.string ⟨#[60]⟩,.string ⟨#[93]⟩,.string ⟨#[62]⟩] 9)) cap x;rw[World.size_alloc] at this;rw[hw];exact this
 have hN:Hid (Neu w w'):=by rw[hw];exact Ahj ((Neu.refl w).alloc _) _ _
 clear hw hW;rw[World.size_alloc]
 go_wp2_with (first|(go_at_call 463;refine(X6 _ _ cap s hs w' hR.out).mono ?_;rintro e w2 ⟨rfl,h⟩;(have hH:Hid _:=h);clear h))
 go_ret
 refine⟨rfl,?_⟩;obtain⟨r,_,h|⟨dk,h⟩⟩:=hH.out
 ·rw[h];exact AdO hN.out o_ _
 ·rw[h];exact((AdO hN.out o_ _).bytes _ _).put _ (by rw[Y2];have:=hN.out.size;omega) _ _
open Go.RowKit Go.Lib Go.Sort in
def WK:fMarkup.ok Tryz.prog 454 :=
 Tc rfl rfl λx hx w ow hB=>Abb x.1 hx w
def AnP:=An1.a fMarkup<|WK
def PO:Go.Proofs.LaysC.n172 Tryz.prog laysCmp_r:=by repeat' first|kernel_rfl|constructor|intro _
def nB (n:Lib.NumEnd Nat) (f:Nat->Lib.NumEnd Nat):Lib.NumEnd Nat:=match n with
 | .ok u=>f u
 | e=>e
def Adi:∀ (l r:List UInt8) (acc:Nat),Lib.parseUint10 acc (l++r)=nB (Lib.parseUint10 acc l) λu=>Lib.parseUint10 u r
 | [],r,acc=>rfl
 | c::l,r,acc=>by
  rw[Qe6,Lib.parseUint10,Lib.parseUint10];split
  ·split
   ·rfl
   ·split
    ·rfl
    ·exact Adi l r _
  ·rfl
def Qz {d:Nat} (h:d<10):(UInt8.ofNat (48+d)).toNat=48+d:=by
 rw[UInt8.toNat_ofNat'];omega
def AhW:∀ (f u:Nat),u<10 ^ (f+1)->u<10 ^ 18->(Lib.decDigits u)≠[]/\(Lib.decDigits u).length<=f+1/\(Lib.decDigits u).all digit=true/\decV (Lib.decDigits u) 0=u/\Lib.parseUint10 0 (Lib.decDigits u)=.ok u:=by
 have one:∀ d,d<10->[UInt8.ofNat (48+d)].all digit=true:=λd hd=>by simp only[List.all_cons,List.all_nil,Bool.and_true,digit,Qz hd,Qa9];omega
 have low:∀ u,u<10->(Lib.decDigits u)≠[]/\(Lib.decDigits u).length<=1/\(Lib.decDigits u).all digit=true/\decV (Lib.decDigits u) 0=u/\Lib.parseUint10 0 (Lib.decDigits u)=.ok u:=λu hu=>by
  rw[EL hu];refine⟨by simp,by simp,one u hu,?_,?_⟩
  ·simp only[decV,Qz hu];omega
  ·rw[Lib.parseUint10,Qz hu,Qa1 o_,Qa3 o_,Qa3 o_];simp[Lib.parseUint10]
 intro f
 induction f with
 | zero=>intro u hu _;exact low u o_
 | succ f ih=>
  intro u hu hv;by_cases h1:u<10
  ·obtain⟨a,b,c⟩:=low u h1;exact⟨a,o_,c⟩
  ·obtain⟨a,b,c,d,e⟩:=ih (u / 10) (by rw[Nat.pow_succ] at hu;omega) o_;rw[Gr o_];refine⟨by simp,by simp;omega,?_,?_,?_⟩
   ·rw[List.all_append,c,one _ o_];rfl
   ·rw[MP,d,Qz o_];omega
   ·rw[Adi,e,nB];simp only[Lib.parseUint10];rw[Qz o_,Qa1 o_,Qa3 o_,Qa3 o_];simp only[Lib.NumEnd.ok.injEq];omega
def OH {n:Int} (h0:0<=n) (h1:n<=1000000000000):(1<=(Iv n).size/\(Iv n).size<=13/\(toL (Iv n)).all digit=true/\decV (toL (Iv n)) 0=n)/\Lib.atoiAll (toL (Iv n))=.ok n:=by
 have e:toL (Iv n)=Lib.decDigits n.toNat:=by unfold toL Iv Lib.itoa;rw[Qa3 o_]
 have es:(Iv n).size=(toL (Iv n)).length:=rfl;obtain⟨a,b,c,d,g⟩:=AhW 12 n.toNat o_ o_;rw[es,e];refine⟨⟨by have:=List.length_pos_iff.2 a;omega,b,c,by rw[d];omega⟩,?_⟩;cases hl:Lib.decDigits n.toNat with
 | nil=>exact absurd hl a
 | cons x r=>
  rw[hl] at c g;have hx:digit x=true:=by simp only[List.all_cons,Qa2] at c;exact c.1
  simp only[digit,Qa9] at hx;rw[Lib.atoiAll_plain x r o_ o_];unfold Lib.parseMag;rw[Qa3 (by simp),g];unfold Lib.signless;simp only[];rw[Qa3 o_];simp only[Lib.NumEnd.ok.injEq];omega
def RV:∀ (l:List UInt8) (n:Int),0<=n->l.all digit=true->0<=decV l n
 | [],n,h,_=>h
 | x::l,n,h,ha=>by simp only[List.all_cons,Qa2,digit,Qa9] at ha;exact RV l _ o_ ha.2
def Agx {s:ByteArray} {v:Int} (h:Lib.atoiAll (toL s)=.ok v):parseInt s=if 0<=v/\v<=1000000000000/\Iv v=s then(v,true) else(0,false):=by
 by_cases hc:0<=v/\v<=1000000000000/\Iv v=s
 ·obtain⟨⟨a1,a2,a3,a4⟩,_⟩:=OH hc.1 hc.2.1;rw[hc.2.2] at a1 a2 a3 a4;rw[Qa1 hc];unfold parseInt;rw[Qa1 ⟨a1,a2,a3,by rw[a4];exact hc.2.1,by rw[a4];exact hc.2.2⟩,a4]
 ·rw[Qa3 hc];unfold parseInt;rw[Qa3];rintro⟨b1,b2,b3,b4,b5⟩;have hn:=RV (toL s) 0 o_ b3;have:=(OH hn b4).2;rw[b5,h] at this;injection this with this
  rw[<-this] at hn b4 b5;exact hc ⟨hn,b4,b5⟩
def Ahg {s:ByteArray} (h:∀ v,Lib.atoiAll (toL s)≠.ok v):parseInt s=(0,false):=by
 unfold parseInt;rw[Qa3];rintro⟨b1,b2,b3,b4,b5⟩;have:=(OH (RV (toL s) 0 o_ b3) b4).2;rw[b5] at this;exact h _ this
open Go.RowKit in
def AaP (n:Int) (h0 : -9223372036854775808<=n) (h1:n<=9223372036854775807) (w:World) (hl:Laid Tryz.prog w):Calls Tryz.prog 432 #[.int .i64 n] w λe w'=>e=.returned (.string (Iv n))/\Neu w w':=by
 go_enter func432,Tryz.ntmps432
 go_wp2_with (fail)
 refine(Go.Proofs.Any.strconv_Itoa Uf n h0 h1 w (hl.1 k_)).mono ?_;rintro e w' ⟨rfl,k,os,rfl⟩;have hN:Hid (Neu w (Go.Sort.grow (w.drewN k) os)):=Neu.grow w k os
 go_wp2
 go_ret
 exact⟨rfl,hN.out⟩
open Go.RowKit in
def Zt (s:ByteArray) (hs:s.size<=1000000000000) (w:World) (hl:Laid Tryz.prog w):Calls Tryz.prog 464 #[.string s] w λe w'=>((∃ v,Lib.atoiAll (toL s)=.ok v/\e=.returned (.tuple #[.int .i64 v,.nilIface]))\/((∀ v,Lib.atoiAll (toL s)≠.ok v)/\∃ n t p,e=.returned (.tuple #[.int .i64 n,.iface t p])))/\Neu w w':=by
 rcases hA:Lib.atoiAll (toL s) with v|_|_
 ·refine(Go.Proofs.Any.strconv_Atoi_ok PO s o_ v hA w).mono ?_;rintro e w' ⟨rfl,h⟩;refine⟨.inl ⟨v,rfl,rfl⟩,?_⟩;rcases h with rfl|⟨t,rfl⟩
  ·exact Neu.refl _
  ·exact(Neu.refl _).bytes _ _
 ·obtain⟨tp,p,hv⟩:=hl.2.1 k_;refine(Go.Proofs.Any.strconv_Atoi_syntax PO s o_ hA (.iface tp p) w (T6 k_ hv) (.inr ⟨_,_,rfl⟩)).mono ?_;rintro e w' ⟨N,rfl,h1,h2,h3⟩;exact⟨.inr ⟨λv=>by simp,_,_,_,rfl⟩,Neu.below h3⟩
 ·obtain⟨tp,p,hv⟩:=hl.2.2 k_;refine(Go.Proofs.Any.strconv_Atoi_range PO s o_ hA (.iface tp p) w (T6 k_ hv) (.inr ⟨_,_,rfl⟩)).mono ?_;rintro e w' ⟨N,rfl,h1,h2,h3⟩;exact⟨.inr ⟨λv=>by simp,_,_,_,rfl⟩,Neu.below h3⟩
open Go.RowKit in
def VM (s:ByteArray) (hs:s.size<=1000000000000) (w:World) (hl:Laid Tryz.prog w):Calls Tryz.prog 457 #[.string s] w λe w'=>e=.returned (.tuple #[.int .i64 (parseInt s).1,.bool (parseInt s).2])/\Neu w w':=by
 go_enter func457,Tryz.ntmps457
 go_wp2_with (fail)
 refine(Zt s hs w hl).mono ?_;rintro e w' ⟨⟨v,hA,rfl⟩|⟨hA,n,t,p,rfl⟩,hN⟩
 ·have hb:=Lib.atoiAll_bounds hA;have hp:=Agx hA;have hN:Hid (Neu w w'):=hN;have hA:Hid (_=_):=hA;by_cases h1:v<0
  ·rw[Qa3 o_] at hp
   go_wp2_with (fail)
   go_ret2
   exact⟨by rw[hp];rfl,hN.out⟩
  ·by_cases h2:v>1000000000000
   ·rw[Qa3 o_] at hp
    go_wp2_with (fail)
    go_ret2
    exact⟨by rw[hp];rfl,hN.out⟩
   ·go_wp2_with (fail)
    refine(AaP v hb.1 hb.2 w' (hN.out.laid hl)).mono ?_;rintro e w2 ⟨rfl,hN2⟩;have hN2:Hid (Neu w' w2):=hN2;by_cases h3:Iv v=s
    ·rw[Qa1 ⟨o_,o_,h3⟩] at hp;rw[h3]
     go_wp2_with (fail)
     go_ret2
     exact⟨by rw[hp];rfl,hN.out.trans hN2.out⟩
    ·rw[Qa3 (by rintro⟨_,_,q⟩;exact h3 q)] at hp;have h4:((Iv v).toList==s.toList)=false:=by rw[AgG];simp[h3]
     go_wp2_with (fail)
     go_ret2
     exact⟨by rw[hp];rfl,hN.out.trans hN2.out⟩
 ·have hp:=Ahg hA;have hN:Hid (Neu w w'):=hN;have hA:Hid (∀ v,Lib.atoiAll (toL s)≠.ok v):=hA
  go_wp2_with (fail)
  go_ret2
  exact⟨by rw[hp];rfl,hN.out⟩
def Ahy:D6.ok Tryz.prog 457:=Tc rfl rfl λx hx w ow hB=>VM x.1 hx w hB.laid
def Amg:=AnP.a D6<|Ahy
def AnN (l:List ByteArray):cut l 1 (l.length-1)=l.drop 1:=by unfold cut;rw[Qb0];simp
def Aiu (s:ByteArray):((cutPre s ⟨#[47]⟩).2=true->0<s.size/\s.data.getD 0 0=47/\(cutPre s ⟨#[47]⟩).1=s.extract 1 s.size)/\((cutPre s ⟨#[47]⟩).2=false->¬ (0<s.size/\s.data.getD 0 0=47)):=by
 have h1:ByteArray.size ⟨#[47]⟩=1:=rfl;have key:hasPre s ⟨#[47]⟩=true↔0<s.size/\s.data.getD 0 0=47:=by
  unfold hasPre;rw[Qa9,h1];constructor
  ·rintro⟨a,b⟩;refine⟨a,?_⟩;have:=congrArg toL b;rw[Bo,Qe7,Lq (i:=0) a,List.take_zero,Qf8] at this;exact(List.cons.inj this).1
  ·rintro⟨a,b⟩;refine⟨a,?_⟩;rw[<-DW (s.extract 0 1),Bo,Qe7,Lq (i:=0) a,List.take_zero,Qf8,b];rfl
 unfold cutPre;by_cases h:hasPre s ⟨#[47]⟩=true
 ·rw[Qa1 h];exact⟨λ_=>⟨(key.1 h).1,(key.1 h).2,rfl⟩,λh2=>(by cases h2)⟩
 ·rw[Qa3 h];exact⟨λh2=>(by cases h2),λ_ h2=>h (key.2 h2)⟩
def Aay {s:ByteArray} (h:s.size<=60) (hn:¬ (0<s.size/\s.data.getD 0 0=47)) (hb:isName ((spl 32 s).getD 0 default)=false\/5<(spl 32 s).length):tagOf s=(default,false):=by
 unfold tagOf;rw[Qa3 o_,Qa3 hn];cases ha:tagAttrs ((spl 32 s).drop 1) [] with
 | none=>rfl
 | some ats=>
  have:=KZ ha;simp only[Qb7,Qe3] at this;show(if isName ((spl 32 s).getD 0 default)=true/\ats.length<=4 then _ else _)=_;rw[Qa3];rintro⟨c1,c2⟩;rcases hb with hb|hb
  ·rw[hb] at c1;cases c1
  ·omega
def AbF {l:List ByteArray} {i:Nat} {acc:List St_} (h:i<l.length):tagAttrs (l.drop i) acc=if(Fx 61 (l.getD i default)).2.2=true/\isName (Fx 61 (l.getD i default)).1=true/\isValue (Fx 61 (l.getD i default)).2.1=true/\(findAttr acc (Fx 61 (l.getD i default)).1).isSome=false then tagAttrs (l.drop (i+1)) (acc++[⟨(Fx 61 (l.getD i default)).1,(Fx 61 (l.getD i default)).2.1⟩]) else none:=by
 rw[Mt h];unfold Fx;cases Ft 61 (toL (l.getD i default)) with
 | none=>simp
 | some r=>
  obtain⟨p,q⟩:=r;simp only[true_and];cases isName (ofL p)<;>cases isValue (ofL q)<;>cases findAttr acc (ofL p)<;>simp
abbrev D9 (s:ByteArray):LInv:=⟨[⟨.b,7,true,.el .token⟩,⟨.s,52,true,.el .int⟩,⟨.b,2,true,.el .token⟩,⟨.s,50,true,.sl .str⟩],λ(z_ x_:Sh_×Int×Sh_×(List ByteArray)×Unit)=>((0<=x_.2.1/\x_.2.1+1<=(spl 32 s).length/\x_.1.bo.length<=x_.2.1/\x_.1=⟨1,(spl 32 s).getD 0 default,x_.1.bo,⟨#[]⟩⟩/\tagAttrs ((spl 32 s).drop (x_.2.1.toNat+1)) x_.1.bo=tagAttrs ((spl 32 s).drop 1) [])/\x_.2.2.1=z_.2.2.1)/\x_.2.2.2.1=z_.2.2.2.1,λ(x_:Sh_×Int×Sh_×(List ByteArray)×Unit)=>(spl 32 s).length-x_.2.1.toNat⟩
def An3:=Amg.a Ht<|Fct.p (KP [0,2,3,4,5,6,7,9,10,11,12,14,50,51,52] [17,24,27,43,53,83]) (λ⟨s,_⟩=>lv [(13,D9 s)]) Amg.2 func336 (by
 rintro⟨(s:ByteArray),_⟩ hp;refine ho (let q2_:=(⟨#[]⟩:ByteArray);let q0_:Out:=.leaf (.tup [(true,[vi ((0:Int)),vs (q2_),.nl,vs (q2_)]),(false,[vb (false)])]) [] [];.br (decide ((s.size:Int)>60)) q0_ (.cl fCutPre (s,(⟨#[47]⟩:ByteArray),()) λz2=>.br (z2.2.1) (.cl fIsName (z2.1,()) λz3=>.br (!z3.1) q0_ (.leaf (.tup [(true,[vi ((2:Int)),vs (z2.1),.nl,vs (q2_)]),(false,[vb (true)])]) [] [])) (.cl EG (s,(⟨#[32]⟩:ByteArray),()) λz4=>let q4_:=(z4.1.length:Int);let q3_:=z4.1.length-1;let q1_:=(0:Int)<=(0:Int)/\(0:Int)<q4_;.ob q1_<|.ob (0<z4.1.length)<|.cl fIsName (z4.1.getD 0 default,()) λz5=>.br (!z5.1) q0_ (.br (decide (wr (q4_-(1:Int))>4)) q0_ (.ob q1_<|.ob (0<z4.1.length)<|.ob ((0:Int)<=(1:Int)/\(1:Int)<=q4_)<|.ob (1+q3_<=z4.1.length)<|lpx (D9 s) ((⟨(1:Int),z4.1.getD 0 default,[],q2_⟩:Sh_),((0:Int),(default,(cut z4.1 1 q3_,())))) λ(y16:Sh_×Int×Sh_×List ByteArray×PUnit) bk16=>.br (decide (y16.2.1<(q3_:Int))) (.ob (inB y16.2.1 y16.2.2.2.1.length)<|.ob (y16.2.1.toNat<y16.2.2.2.1.length)<|.cl TP (y16.2.2.2.1.getD y16.2.1.toNat default,(⟨#[61]⟩:ByteArray),()) λz6=>let q5_:=(⟨z6.1,z6.2.1⟩:St_);.cl fFindAttr (y16.1.bo,z6.1,()) λz7=>.br (!z6.2.2.1) q0_ (.cl fIsName (z6.1,()) λz8=>.br (!z8.1) q0_ (.cl fIsValue (z6.2.1,()) λz9=>.br (!z9.1) q0_ (.br (z7.2.1) q0_ (.ob (True)<|.ob (Br (y16.1.bo.length+[q5_].length) 32)<|.ob (Value.string s=Value.string s)<|.ob (Value.string z2.1=Value.string z2.1)<|.ob (Value.bool z2.2.1=Value.bool z2.2.1)<|.ob (Value.int IntKind.i64 (q3_:Int)=Value.int IntKind.i64 (q3_:Int))<|.ob (bk16 (({y16.1 with bo:=y16.1.bo++[q5_]}:Sh_),(w1 y16.2.1,(y16.2.2.1,(y16.2.2.2.1,())))))<|.ok))))) (.lf Ht (y16.1,true,()))))))) ?_;refine Ab (λh1=>Fct.leafZ (default,false,()) (by repeat' first|exact rfl|exact trivial|refine And.intro ?_ ?_) ?_) (λh1=>DP ?_ λo2 z2 ez2=>(Ab (λh3=>DP ?_ λo4 z3 ez3=>(Ab (λh5=>Fct.leafZ (default,false,()) (by repeat' first|exact rfl|exact trivial|refine And.intro ?_ ?_) ?_) (λh5=>Fct.leafZ (⟨(2:Int),z2.fst,[],{ data := #[]:ByteArray }⟩,true,()) (by repeat' first|exact rfl|exact trivial|refine And.intro ?_ ?_) ?_))) (λh3=>DP ?_ λo6 z4 ez4=>(Aa ?_ λ_=>Aa ?_ λ_=>DP ?_ λo9 z5 ez5=>(Ab (λh10=>Fct.leafZ (default,false,()) (by repeat' first|exact rfl|exact trivial|refine And.intro ?_ ?_) ?_) (λh10=>Ab (λh11=>Fct.leafZ (default,false,()) (by repeat' first|exact rfl|exact trivial|refine And.intro ?_ ?_) ?_) (λh11=>Aa ?_ λ_=>Aa ?_ λ_=>Aa ?_ λ_=>Aa ?_ λ_=>Ai ?_ λ(y16:Sh_×Int×Sh_×List ByteArray×PUnit) i16=>Ab (λh17=>Aa ?_ λ_=>Aa ?_ λ_=>DP ?_ λo20 z6 ez6=>(DP ?_ λo21 z7 ez7=>(Ab (λh22=>Fct.leafZ (default,false,()) (by repeat' first|exact rfl|exact trivial|refine And.intro ?_ ?_) ?_) (λh22=>DP ?_ λo23 z8 ez8=>(Ab (λh24=>Fct.leafZ (default,false,()) (by repeat' first|exact rfl|exact trivial|refine And.intro ?_ ?_) ?_) (λh24=>DP ?_ λo25 z9 ez9=>(Ab (λh26=>Fct.leafZ (default,false,()) (by repeat' first|exact rfl|exact trivial|refine And.intro ?_ ?_) ?_) (λh26=>Ab (λh27=>Fct.leafZ (default,false,()) (by repeat' first|exact rfl|exact trivial|refine And.intro ?_ ?_) ?_) (λh27=>Aa trivial λ_=>Aa ?_ λ_=>Aa rfl λ_=>Aa rfl λ_=>Aa rfl λ_=>Aa rfl λ_=>Aa ?_ λ_=>trivial))))))))) (λh17=>lfY ?_))))))));all_goals subst_vars
 all_goals
  try simp only[Hv] at *
  try simp only[D9,TP,fCutPre,fFindAttr,fIsName,fIsValue,EG,Ht,std,Nat.reduceAdd,AnN] at *
  try simp only[show(#[47]:Array UInt8).getD 0 0=47 from rfl,show(#[32]:Array UInt8).getD 0 0=32 from rfl,show(#[61]:Array UInt8).getD 0 0=61 from rfl] at *
 all_goals
  have hk:=Eh 32 s;have hm:∀ i,i<(spl 32 s).length->((spl 32 s).getD i default).size<=s.size:=λi h=>IY (A7 h)
  have hq:=Aiu s;have hx:(s.extract 1 s.size).size<=s.size:=by rw[Qc1];omega
 all_goals try (obtain⟨⟨⟨a1,a2,a3,a4,a5⟩,a6⟩,a7⟩:=i16)
 all_goals
  have hd:∀ i,((spl 32 s).drop 1).getD i default=(spl 32 s).getD (i+1) default:=λi=>by simp[Qb2,Qf5,Nat.add_comm]
  try simp only[a7,hd,Qe3] at *
 all_goals first|trivial|omega|skip
 all_goals first|(rw[Gw.1 o_];exact⟨rfl,rfl⟩)|(rw[(hq.1 ‹_›).2.2];omega)|skip
 all_goals first|(rw[Gw.2 o_ (hq.1 ‹_›).1 (hq.1 ‹_›).2.1,Qa3 (by rw[<-(hq.1 ‹_›).2.2,show isName _=false from ‹_›];decide)];exact⟨rfl,rfl⟩)|(rw[Gw.2 o_ (hq.1 ‹_›).1 (hq.1 ‹_›).2.1,Qa1 (by rw[<-(hq.1 ‹_›).2.2];assumption)];exact⟨by rw[(hq.1 ‹_›).2.2],rfl⟩)|skip
 all_goals
  have hn:=hq.2 ‹_›;try rw[Ag (show -9223372036854775808<=(((spl 32 s).length:Nat):Int)-1/\(((spl 32 s).length:Nat):Int)-1<=9223372036854775807 from o_)] at *
 all_goals first|(rw[Aay o_ hn (.inl ‹_›)];exact⟨rfl,rfl⟩)|(rw[Aay o_ hn (.inr o_)];exact⟨rfl,rfl⟩)|omega|exact⟨o_,o_,by simp,rfl,rfl⟩|exact⟨o_,o_,by simp,trivial,rfl⟩|skip
 all_goals
  have h00:=hm 0 o_;try have hw:=hm (y16.2.1.toNat+1)
 all_goals first|omega|exact⟨o_,rfl⟩|exact⟨o_,o_⟩|skip
 all_goals first|exact⟨o_,o_,o_,trivial⟩|skip
 all_goals have hc:=Sx 61 ((spl 32 s).getD (y16.2.1.toNat+1) default)
 all_goals first|omega|(rw[HL o_] at a5;rw[Pi o_ hn a5.symm,Qa1 ⟨‹_›,o_⟩];exact⟨a4,rfl⟩)|rw[AbF o_] at a5
 all_goals first|(rw[Qa3 (by rintro⟨c1,c2,c3,c4⟩;first|exact tf c1 ‹_›|exact tf c2 ‹_›|exact tf c3 ‹_›|exact tf ‹_› c4)] at a5;rw[TJ o_ hn a5.symm];exact⟨rfl,rfl⟩)|rw[Qa1 ⟨‹_›,‹_›,‹_›,‹_›⟩] at a5
 all_goals rw[Ag o_,toNat1 o_]
 all_goals refine⟨⟨⟨⟨o_,o_,by rw[Qa4];simp only[Qa6,Qb7];omega,?_,a5⟩,a6⟩,by first|trivial|rfl⟩,o_⟩
 all_goals rw[a4])
def It (c:UInt8):∀ l:List UInt8,Lib.indexByte l c=if l.findIdx (λx=>x==c)=l.length then -1 else((l.findIdx λx=>x==c:Nat):Int)
 | []=>rfl
 | b::l=>by
  have hl:=List.findIdx_le_length (xs:=l) (p:=λx=>x==c);rw[Lib.indexByte,It c l,List.findIdx_cons];cases hb:(b==c) with
  | true=>simp
  | false=>
   simp only[Qd4,Qe5,Qf2,Qa6];by_cases h:l.findIdx (λx=>x==c)=l.length
   ·rw[Qa1 h,Qa1 (by decide),Qa1 o_]
   ·rw[Qa3 h,Qa3 (by simp only[Qf7];omega),Qa3 o_];omega
def idxJ (b:UInt8) (s:ByteArray):Int:=if idxB b s=s.size then -1 else idxB b s
def YU:Fct:=⟨[.v (.el .str),.v (.el .u8)],[.el .int],λ(x_:ByteArray×Int×Unit)=>0<=x_.2.1/\x_.2.1<=255,λ(x_:ByteArray×Int×Unit)=>(idxJ (UInt8.ofNat x_.2.1.toNat) x_.1,())⟩
def Ad7:Go.Proofs.Lays.n137 Tryz.prog laysCmp_r:=by repeat' first|kernel_rfl|constructor|intro _
def Anb:=An3.a YU<|Tc rfl rfl λx hx w ow hB=>(Go.Proofs.Any.strings_IndexByte Ad7 x.1 x.2.1 w).mono λe w' ⟨a,b⟩=>⟨by rw[a,It];rfl,by rw[b];exact Neu.refl w⟩
def YE {x:ByteArray} (h0:0<x.size):(x.data.getD 0 0=60↔idxB 60 x=0):=by
 have e:toL x=x.data.getD 0 0::(toL x).drop 1:=by
  have:=Ij (s:=x) (i:=0) h0
  rwa [Qe7] at this
 unfold idxB;rw[e,List.findIdx_cons];cases hb:(x.data.getD 0 0==60) with
 | true=>simp;simpa using hb
 | false=>simp;simpa using hb
def X5 (b:UInt8) (x:ByteArray):(idxJ b x = -1/\idxB b x=x.size)\/(idxJ b x=idxB b x/\idxB b x<x.size):=by
 have:=Fv b x;unfold idxJ;by_cases h:idxB b x=x.size
 ·rw[Qa1 h];exact .inl ⟨rfl,h⟩
 ·rw[Qa3 h];exact .inr ⟨rfl,o_⟩
def Abf {x:ByteArray} (h:x.size=0):feedAll x=([],x):=by
 have k1:=Fv 60 x;have k2:=Fv 62 x;exact MQ o_ o_
abbrev BU (t:So_) (s:ByteArray):LInv:=⟨[⟨.s,6,true,.el .str⟩,⟨.s,7,true,.sl .token⟩,⟨.b,5,true,.el .tokenizer⟩],λ(z_ x_:ByteArray×(List Sh_)×So_×Unit)=>(x_.2.1.length+x_.1.size<=(t.rest++s).size/\x_.2.1++(feedAll x_.1).1=(feedAll (t.rest++s)).1/\(feedAll x_.1).2=(feedAll (t.rest++s)).2)/\x_.2.2.1=z_.2.2.1,λ(x_:ByteArray×(List Sh_)×So_×Unit)=>x_.1.size⟩
def Aj2:=Anb.a fFeedText<|Fct.p (KP [1,2,4,5,6,7,8,9,10,11] [18,21,25,39,47]) (λ⟨t,s,_⟩=>lv [(3,BU t s)]) Anb.2 func280 (by
 rintro⟨(t:So_),(s:ByteArray),_⟩ hp;refine ho (let q6_:=(⟨#[]⟩:ByteArray);let q3_:=Value.string s=Value.string s;.ob (sameSize t.rest s)<|lpx (BU t s) (t.rest++s,([],(default,()))) λ(y2:ByteArray×List Sh_×So_×PUnit) bk2=>let q2_:Out:=.lf fFeedText (y2.2.1,⟨y2.1⟩,());let q0_:=(y2.1.size:Int);.br (!y2.1.toList==q6_.toList) (.ob ((0:Int)<=(0:Int)/\(0:Int)<q0_)<|.br ((↑(y2.1.data.getD 0 0).toNat:Int) != 60) (.cl YU (y2.1,(60:Int),()) λ(z2:Int×PUnit)=>let q5_:=0<=z2.1/\z2.1<=q0_;let q1_:=(⟨(3:Int),q6_,[],y2.1.extract 0 z2.1.toNat⟩:Sh_);.br (decide (z2.1<0)) q2_ (.ob q5_<|.ob (Br (y2.2.1.length+[q1_].length) 64)<|.ob q5_<|.ob q3_<|.ob (bk2 (y2.1.extract z2.1.toNat y2.1.size,(y2.2.1++[q1_],(y2.2.2.1,()))))<|.ok)) (.cl YU (y2.1,(62:Int),()) λ(z3:Int×PUnit)=>let q4_:=0<=w1 z3.1/\w1 z3.1<=q0_;.br (decide (z3.1<0)) q2_ (.ob ((0:Int)<=(1:Int)/\1<=z3.1/\z3.1<=q0_)<|.cl Ht (y2.1.extract 1 z3.1.toNat,()) λz4=>.br (z4.2.1) (.ob (Br (y2.2.1.length+[z4.1].length) 64)<|.ob q4_<|.ob q3_<|.ob (bk2 (y2.1.extract (w1 z3.1).toNat y2.1.size,(y2.2.1++[z4.1],(y2.2.2.1,()))))<|.ok) (.ob q4_<|.ob q3_<|.ob (bk2 (y2.1.extract (w1 z3.1).toNat y2.1.size,(y2.2.1,(y2.2.2.1,()))))<|.ok)))) q2_) ?_;repeat' first|(guard_target =~ Out.holds _ _;first|refine Ai (li:=BU t s) ?_ λ(y2:ByteArray×List Sh_×So_×PUnit) i2=>?_|refine lfY ?_|refine Ab (λ_=>?_) λ_=>?_|refine Ae ?_ λ_=>?_|refine Aa ?_ λ_=>?_)|exact trivial
 all_goals
  try simp only[Hv] at *
  try simp only[BU,fFeedText,YU,Ht,std,Nat.reduceAdd] at *
  try simp only[show UInt8.ofNat (Int.toNat 60)=60 from rfl,show UInt8.ofNat (Int.toNat 62)=62 from rfl,Qb3] at *
 all_goals try (obtain⟨⟨a1,a2,a3⟩,a4⟩:=i2)
 all_goals first|trivial|omega|(unfold sameSize;omega)|skip
 all_goals
  have k1:=Fv 60 y2.1;have k2:=Fv 62 y2.1;have j1:=X5 60 y2.1;have j2:=X5 62 y2.1
 all_goals first|omega|skip
 all_goals
  have k3:=SF (x:=y2.1);have kb:=MB (s:=y2.1) (i:=0) (b:=60) (by decide) (by decide);have kn:¬ y2.1=⟨#[]⟩->0<y2.1.size:=λh=>Nat.pos_of_ne_zero λe=>h (ByteArray.size_eq_zero_iff.1 e)
 all_goals first|(refine⟨o_,?_⟩;have:=kn ‹_›;omega)|(rw[Abf (x:=y2.1) (by rw[show y2.1=_ from ‹_›];rfl)] at a2 a3;rw[Qd3] at a2;exact⟨a2,by rw[<-a3]⟩)|skip
 all_goals have kh:=YE (x:=y2.1) o_
 all_goals first|(have ht:¬ idxB 60 y2.1=0:=λe=>absurd (kb.2 (by rw[kh.2 e];rfl)) ‹_›)|(have ht:idxB 60 y2.1=0:=kh.1 ((kb.1 ‹_›).trans rfl))
 all_goals first|(rw[MQ (x:=y2.1) o_ o_] at a2 a3;rw[Qd3] at a2;exact⟨a2,by rw[<-a3]⟩)|skip
 all_goals
  try have k6:idxB 62 y2.1<y2.1.size:=o_
  try have k7:=k3 ht k6
 all_goals first|omega|(rw[Qc1];omega)|(rw[Ag o_];omega)|skip
 all_goals have k5:∀ a,(y2.1.extract a y2.1.size).size=y2.1.size-a:=λa=>by rw[Qc1];omega
 all_goals first|(have e1:idxJ 60 y2.1=(idxB 60 y2.1:Int):=by omega);rw[RQ (x:=y2.1) o_ o_] at a2 a3;rw[e1,Qg2]|(have e1:idxJ 62 y2.1=(idxB 62 y2.1:Int):=by omega);rw[TK (x:=y2.1) ht k6] at a2 a3;rw[Ag o_,e1,show(((idxB 62 y2.1:Nat):Int)+1).toNat=idxB 62 y2.1+1 from o_]
 all_goals try simp only[e1,Qg2] at *
 all_goals try (first|rw[Qa1 ‹_›] at a2|rw[Qa3 (by rw[show Prod.snd _=false from ‹_›];decide)] at a2)
 all_goals refine⟨⟨⟨?_,?_,a3⟩,a4⟩,?_⟩
 all_goals first|(rw[k5];simp only[Qa4,Qa6,Qb7];omega)|(rw[k5];omega)|exact a2|(rw[Qb4];exact a2)|skip)
def AjX:=Aj2.a fRunLine<|Fct.o (KP [1,3,5,6,7,8,9,13] [14,20,30,40,53,66]) Aj2.2 func446 (by
 rintro⟨(b:Se_),(l:List Sm_),(x:Sr_),_⟩ hp;exact ho _ (q21 b l x hp))
abbrev CK (b:Se_) (l:(List Sm_)) (r:(List Sr_)):LInv:=⟨[⟨.b,9,true,.el .ba⟩,⟨.s,10,true,.el .str⟩,⟨.s,11,true,.sl .str⟩,⟨.s,22,true,.el .int⟩,⟨.b,6,true,.el .ba⟩],λ(z_ x_:Se_×ByteArray×(List ByteArray)×Int×Se_×Unit)=>(0<=x_.2.2.2.1/\x_.2.2.2.1<=r.length/\szBuilder x_.1+szL Dl (r.drop x_.2.2.2.1.toNat)<=szBuilder b+szL Dl r/\x_.2.1.size+szL Dl (r.drop x_.2.2.2.1.toNat)<=szL Dl r/\x_.2.2.1.length<=x_.2.2.2.1/\runLines l (r.drop x_.2.2.2.1.toNat) x_.1 x_.2.1 x_.2.2.1=runScript b l r)/\x_.2.2.2.2.1=z_.2.2.2.2.1,λ(x_:Se_×ByteArray×(List ByteArray)×Int×Se_×Unit)=>r.length-x_.2.2.2.1.toNat⟩
def Ai3:=AjX.a Ck<|Fct.p (KP [1,2,3,6,7,8,9,10,11,13,14,15,16,20,21,22] [23,39]) (λ⟨b,l,r,_⟩=>lv [(5,CK b l r)]) AjX.2 func424 (by
 rintro⟨(b:Se_),(l:List Sm_),(r:List Sr_),_⟩ hp;refine ho (let q3_:=(r.length:Int);let q1_:=Value.int IntKind.i64 q3_=Value.int IntKind.i64 q3_;let q0_:=(⟨#[]⟩:ByteArray);let q2_:=Value.string q0_=Value.string q0_;.cl fCopyBuilder (b,()) λz2=>lpx (CK b l r) (z2.1,(q0_,([],((0:Int),(default,()))))) λ(y2:Se_×ByteArray×List ByteArray×Int×Se_×PUnit) bk2=>.br (decide (y2.2.2.2.1<q3_)) (.ob (inB y2.2.2.2.1 r.length)<|.cl fRunLine (y2.1,l,r.getD y2.2.2.2.1.toNat default,()) λz3=>.ob (sameSize y2.2.1 z3.2.1)<|.br (!z3.2.2.1.toList==q0_.toList) (.ob (True)<|.ob (Br (y2.2.2.1.length+[z3.2.2.1].length) 16)<|.ob (l=l)<|.ob (r=r)<|.ob q2_<|.ob (r=r)<|.ob q1_<|.ob (bk2 (z3.1,(y2.2.1++z3.2.1,(y2.2.2.1++[z3.2.2.1],(w1 y2.2.2.2.1,(y2.2.2.2.2.1,()))))))<|.ok) (.ob (l=l)<|.ob (r=r)<|.ob q2_<|.ob (r=r)<|.ob q1_<|.ob (bk2 (z3.1,(y2.2.1++z3.2.1,(y2.2.2.1,(w1 y2.2.2.2.1,(y2.2.2.2.2.1,()))))))<|.ok)) (.lf Ck (y2.1,y2.2.1,y2.2.2.1,()))) ?_;refine Ae ?_ λ_=>(Ai ?_ λ(y2:Se_×ByteArray×List ByteArray×Int×Se_×PUnit) i2=>Ab (λh3=>Aa ?_ λ_=>Ae ?_ λ_=>(Aa ?_ λ_=>Ab (λh7=>Aa trivial λ_=>Aa ?_ λ_=>Aa rfl λ_=>Aa rfl λ_=>Aa rfl λ_=>Aa rfl λ_=>Aa rfl λ_=>Aa ?_ λ_=>trivial) (λh7=>Aa rfl λ_=>Aa rfl λ_=>Aa rfl λ_=>Aa rfl λ_=>Aa rfl λ_=>Aa ?_ λ_=>trivial))) (λh3=>lfY ?_))
 all_goals
  have hr:=Ac Dl r;have hx:∀ i,i<r.length->szL Dl (r.drop i)=(r.getD i default).text.size+1+szL Dl (r.drop (i+1)):=λi h=>LV Dl h
  have hs:=λbb x=>JS bb l x
  have hrs:runLines l r b ⟨#[]⟩ []=runScript b l r:=rfl;try simp only[CK,fCopyBuilder,fRunLine,Ck,std,Nat.reduceAdd,runLines_at,runLines_end,sameSize,Qb3] at *
  try simp(disch:=omega) only[wrapId',toNat1] at *
  try simp(disch:=omega) only[Qa1,Qa3]
 all_goals first|trivial|omega|grind[wrapId',toNat1,drop_cons,drop_end,good_len,maxLen,fCopyBuilder,fRunLine,runLines_at,runLines_end,sameSize,ByteArray.size_append])
def Zn (w:ByteArray):ruleOf w=if isName (Fx 58 w).1=true/\(parseInt (Fx 58 w).2.1).2=true/\1<=(parseInt (Fx 58 w).2.1).1/\(parseInt (Fx 58 w).2.1).1<=999 then some ⟨(Fx 58 w).1,(parseInt (Fx 58 w).2.1).1⟩ else none:=by
 unfold ruleOf Fx;cases h:Ft 58 (toL w) with
 | none=>
  dsimp only;rw[Qa3];rintro⟨_,q,_⟩;have:(parseInt ⟨#[]⟩).2=false:=by unfold parseInt;rw[Qa3 (by rintro⟨q,_⟩;exact absurd q (by decide))]
  exact tf q this
 | some r=>rfl
abbrev Bk (s:ByteArray):LInv:=⟨[⟨.b,3,true,.el .sheet⟩,⟨.s,15,true,.el .int⟩,⟨.b,2,true,.el .sheet⟩,⟨.s,13,true,.sl .str⟩],λ(z_ x_:Sm_×Int×Sm_×(List ByteArray)×Unit)=>((0<=x_.2.1/\x_.2.1<=(spl 59 s).length/\x_.1.rules.length<=8/\parseRules ((spl 59 s).drop x_.2.1.toNat) x_.1.rules=parseRules (spl 59 s) [])/\x_.2.2.1=z_.2.2.1)/\x_.2.2.2.1=z_.2.2.2.1,λ(x_:Sm_×Int×Sm_×(List ByteArray)×Unit)=>(spl 59 s).length-x_.2.1.toNat⟩
def AjP:=Ai3.a fParseSheet<|Fct.p (KP [0,2,3,5,6,7,9,10,13,14,15] [16,44]) (λ⟨s,_⟩=>lv [(3,Bk s)]) Ai3.2 func447 (by
 rintro⟨(s:ByteArray),_⟩ hp;refine ho (let q3_:=Value.string s=Value.string s;.cl EG (s,(⟨#[59]⟩:ByteArray),()) λz2=>let q2_:=(z2.1.length:Int);let q1_:=Value.int IntKind.i64 q2_=Value.int IntKind.i64 q2_;lpx (Bk s) (default,((0:Int),(default,(z2.1,())))) λ(y2:Sm_×Int×Sm_×List ByteArray×PUnit) bk2=>let q0_:Out:=.ob q3_<|.ob q1_<|.ob (bk2 (y2.1,(w1 y2.2.1,(y2.2.2.1,(y2.2.2.2.1,())))))<|.ok;.br (decide (y2.2.1<q2_)) (.ob (inB y2.2.1 y2.2.2.2.1.length)<|.ob (y2.2.1.toNat<y2.2.2.2.1.length)<|.cl TP (y2.2.2.2.1.getD y2.2.1.toNat default,(⟨#[58]⟩:ByteArray),()) λz3=>.cl D6 (z3.2.1,()) λ(z4:Int×Bool×PUnit)=>let q4_:=(⟨z3.1,z4.1⟩:Sx_);.br (z4.2.1) (.cl fIsName (z3.1,()) λz5=>.br (z5.1) (.cl fInRange (z4.1,(1:Int),(999:Int),()) λz6=>.br (z6.1) (.br (decide ((y2.1.rules.length:Int)<8)) (.ob (True)<|.ob (Br (y2.1.rules.length+[q4_].length) 24)<|.ob q3_<|.ob q1_<|.ob (bk2 ((⟨y2.1.rules++[q4_]⟩:Sm_),(w1 y2.2.1,(y2.2.2.1,(y2.2.2.2.1,())))))<|.ok) q0_) q0_) q0_) q0_) (.lf fParseSheet (y2.1,()))) ?_;repeat' first|(guard_target =~ Out.holds _ _;first|refine Ai (li:=Bk s) ?_ λ(y2:Sm_×Int×Sm_×List ByteArray×PUnit) i2=>?_|refine lfY ?_|refine Ab (λ_=>?_) λ_=>?_|refine Ae ?_ λ_=>?_|refine Aa ?_ λ_=>?_)|exact trivial
 all_goals
  have hk:=Eh 59 s;have hm:∀ i,i<(spl 59 s).length->((spl 59 s).getD i default).size<=s.size:=λi h=>IY (A7 h)
  have hp1:s.size<=4200000000:=hp;try simp only[Bk,TP,fInRange,fIsName,D6,fParseSheet,EG,std,Nat.reduceAdd,inRange] at *
  try simp only[show(#[59]:Array UInt8).getD 0 0=59 from rfl,show(#[58]:Array UInt8).getD 0 0=58 from rfl,Qa2,Qe1,Qa9,Qa8] at *
 all_goals first|omega|exact⟨o_,o_,by decide,rfl⟩|(obtain⟨⟨⟨a1,a2,a3,a4⟩,e1⟩,e2⟩:=i2;simp only[e2] at *)
 all_goals try (have hw:=hm y2.2.1.toNat o_;have hc:=Sx 58 ((spl 59 s).getD y2.2.1.toNat default))
 all_goals first|omega|exact⟨o_,o_⟩|(rw[Is o_] at a4;show y2.1=parseSheet s;unfold parseSheet;rw[<-a4])|skip
 all_goals have e:=I8 (l:=spl 59 s) (i:=y2.2.1.toNat) (acc:=y2.1.rules) o_
 all_goals rw[a4,Zn] at e
 all_goals rw[Ag o_,show(y2.2.1+1).toNat=y2.2.1.toNat+1 from o_]
 all_goals first|(rw[Qa3 o_] at e;exact⟨⟨⟨⟨o_,o_,o_,e.symm⟩,e1⟩,by first|trivial|rfl⟩,o_⟩)|skip
 all_goals first|(rw[Qa1 (show y2.1.rules.length<8 from o_),Qa1 ⟨‹_›,‹_›,o_,o_⟩] at e;exact⟨⟨⟨⟨o_,o_,by simp only[Qa4,Qa6,Qb7];omega,e.symm⟩,e1⟩,by first|trivial|rfl⟩,o_⟩)|skip
 all_goals rw[Qa3 (show ¬ (isName _=true/\_) by rintro⟨q1,q2,q3,q4⟩;first|omega|exact tf q1 ‹_›|exact tf q2 ‹_›),Option.toList_none,Qd3,ite_self] at e
 all_goals exact⟨⟨⟨⟨o_,o_,o_,e.symm⟩,e1⟩,by first|trivial|rfl⟩,o_⟩)
def runL (p:Sa_) (l:List Sr_) (w:Bool):Sa_:={ p with ba:=(runScript p.ba (sheetsOf p.bf) l).1,log:=addLog p.log (runScript p.ba (sheetsOf p.bf) l).2.2,bn:=if w=true then tokensOf (runScript p.ba (sheetsOf p.bf) l).2.1++p.bn else p.bn }
def okRL (p:Sa_) (l:List Sr_):Prop:=p.bn.length<=1000000000000/\szBuilder p.ba<=40000000000/\szL AP p.bf<=40000000000/\okBod p/\szL Dl l<=366
def C3:GS:=⟨[.b (.el .page),.l (.v (.sl .line)),.l (.v (.el .bool))],[],λ(x_:Sa_×(List Sr_)×Bool×Unit)=>okRL x_.1 x_.2.1,λ(x_:Sa_×(List Sr_)×Bool×Unit)=>((()),(runL x_.1 x_.2.1 x_.2.2.1,()))⟩
def Abx {p:Sa_} {l:List Sr_} (h:okRL p l):szL AP p.bf<=1000000000000/\okBod p/\szBuilder p.ba<=50000000000/\szL Eb (sheetsOf p.bf)<=100000000000/\szL Dl l<=1000000000/\okSheets (sheetsOf p.bf)/\(runScript p.ba (sheetsOf p.bf) l).2.1.size<=366/\(runScript p.ba (sheetsOf p.bf) l).2.2.length<=366/\p.bn.length<=1000000000000:=by
 obtain⟨h1,h2,h3,h4,h5⟩:=h;have hs:=ET p.bf;have hr:=Hg (sheetsOf p.bf) l p.ba ⟨#[]⟩ [];have hl:=Ac Dl l;have h0:ByteArray.size ⟨#[]⟩=0:=rfl;simp only[Qb7] at hr;exact⟨o_,h4,o_,o_,o_,hs.2,by(show(runLines (sheetsOf p.bf) l p.ba ⟨#[]⟩ []).2.1.size<=366;omega),by(show(runLines (sheetsOf p.bf) l p.ba ⟨#[]⟩ []).2.2.length<=366;omega),o_⟩
abbrev BX (p:Sa_):LInv:=⟨[⟨.s,3,true,.sl .sheet⟩,⟨.s,10,true,.el .int⟩],λ_ (x_:(List Sm_)×Int×Unit)=>0<=x_.2.1/\x_.2.1<=p.bf.length/\x_.1.length<=x_.2.1/\x_.1++sheetsOf (p.bf.drop x_.2.1.toNat)=sheetsOf p.bf,λ(x_:(List Sm_)×Int×Unit)=>p.bf.length-x_.2.1.toNat⟩
def AkD:=AjP.a Db<|Fct.p (KP [1,2,3,5,8,9,10] [11,25]) (λ⟨p,_⟩=>lv [(3,BX p)]) AjP.2 func425 (by
 rintro⟨(p:Sa_),_⟩ hp;refine ho (let q3_:=(p.bf.length:Int);let q1_:=Value.int IntKind.i64 q3_=Value.int IntKind.i64 q3_;lpx (BX p) ([],((0:Int),())) λ(y1:List Sm_×Int×PUnit) bk1=>let q2_:=p.bf.getD y1.2.1.toNat default;let q0_:Out:=.ob (p.bf=p.bf)<|.ob q1_<|.ob (bk1 (y1.1,(w1 y1.2.1,())))<|.ok;.br (decide (y1.2.1<q3_)) (.ob (inB y1.2.1 p.bf.length)<|.br (q2_.mode==2) (.br (q2_.done) (.br (q2_.code==1) (.cl fParseSheet (q2_.body,()) λz2=>.ob (Br (y1.1.length+[z2.1].length) 24)<|.ob (p.bf=p.bf)<|.ob q1_<|.ob (bk1 (y1.1++[z2.1],(w1 y1.2.1,())))<|.ok) q0_) q0_) q0_) (.lf Db (y1.1,()))) ?_;repeat' first|(guard_target =~ Out.holds _ _;first|refine Ai (li:=BX p) ?_ λ(y1:List Sm_×Int×PUnit) i1=>?_|refine lfY ?_|refine Ab (λ_=>?_) λ_=>?_|refine Ae ?_ λ_=>?_|refine Aa ?_ λ_=>?_)|exact trivial
 all_goals
  have h0:sheetsOf (p.bf.drop 0)=sheetsOf p.bf:=rfl;have hl:=Ac AP p.bf;have hg:∀ i,i<p.bf.length->(p.bf.getD i default).body.size<=4200000000:=hp.2;have hg2:szL AP p.bf<=1000000000000:=hp.1;clear hp;try simp only[BX,fParseSheet,Db,std,Nat.reduceAdd,sheetsOf_at,sheetsOf_end,Qa4,Qa6,Qb7,Qb4] at *
  try simp(disch:=omega) only[wrapId',toNat1] at *
  try simp(disch:=omega) only[Qa1,Qa3]
 all_goals first|trivial|omega|grind[wrapId',toNat1,drop_cons,drop_end,good_len,maxLen,fParseSheet,sheetsOf_at,sheetsOf_end,List.length_append,List.length_cons,List.length_nil,List.append_assoc])
def AjD:=AkD.a D5<|Fct.o [0,2,3,4] AkD.2 func426 (by
 rintro⟨(s:ByteArray),_⟩ hp;exact ho _ (q18 s hp))
def AmV:=AjD.a Ci<|Fct.o (KP [1,2,4,5,6,7] [11]) AjD.2 func223 (by
 rintro⟨(p:Sa_),(s:ByteArray),_⟩ hp;exact ho _ (q19 p s hp))
abbrev C0 (p:Sa_) (l:(List Sr_)) (w:Bool):LInv:=⟨[⟨.s,31,true,.el .int⟩,⟨.b,0,true,.el .page⟩,⟨.s,29,true,.sl .str⟩],λ(z_ x_:Int×Sa_×(List ByteArray)×Unit)=>x_.2.2.1=z_.2.2.1/\logInv z_.2.1 z_.2.2.1 x_.2.1 x_.1,λ(x_:Int×Sa_×(List ByteArray)×Unit)=>x_.2.2.1.length-x_.1.toNat⟩
def Amm:=AmV.G C3<|GS.of (S:=C3) (L:=λ⟨p,l,w,_⟩=>λ|3=>some (C0 p l w)|_=>none) (kp:=(KP [0,2,6,7,8,10,29,30,31] [32,39])) AmV.2 func389 k_ k_ (by
 rintro⟨(p:Sa_),(l:List Sr_),(w:Bool),_⟩ hp;refine ho (.cl Db (p,()) λz2=>.cl Ck (p.ba,z2.1,l,()) λz3=>let q0_:=(z3.2.2.1.length:Int);lpx (C0 p l w) ((0:Int),(({p with ba:=z3.1}:Sa_),(z3.2.2.1,()))) λ(y3:Int×Sa_×List ByteArray×PUnit) bk3=>.br (decide (y3.1<q0_)) (.ob (inB y3.1 y3.2.2.1.length)<|.ob (y3.1.toNat<y3.2.2.1.length)<|.ob (Gq.pre (y3.2.1,y3.2.2.1.getD y3.1.toNat default,()))<|.lt _ (Gq.fn (y3.2.1,y3.2.2.1.getD y3.1.toNat default,())) λz4=>.ob (Value.bool w=Value.bool w)<|.ob (Value.string z3.2.1=Value.string z3.2.1)<|.ob (Value.int IntKind.i64 q0_=Value.int IntKind.i64 q0_)<|.ob (bk3 (w1 y3.1,(z4.2.1,(y3.2.2.1,()))))<|.ok) (.br (w) (.cl D5 (z3.2.1,()) λz5=>.ob (Br (z5.1.length+y3.2.1.bn.length) 64)<|GS.out C3 ((()),({y3.2.1 with bn:=z5.1++y3.2.1.bn},()))) (GS.out C3 ((()),(y3.2.1,()))))) ?_;refine Ae ?_ λ_=>(Ae ?_ λ_=>(Ai ?_ λ(y3:Int×Sa_×List ByteArray×PUnit) i3=>Ab (λh4=>Aa ?_ λ_=>Aa ?_ λ_=>Aa trivial λ_=>DU (Aa rfl λ_=>Aa rfl λ_=>Aa rfl λ_=>Aa ?_ λ_=>trivial)) (λh4=>Ab (λh8=>Ae ?_ λ_=>(Aa ?_ λ_=>GS.leafY ?_)) (λh8=>GS.leafY ?_))))
 all_goals obtain⟨r1,r2,r3,r4,r5,r6,r7,r8,r9⟩:=Abx (show okRL p l from hp)
 all_goals
  try simp only[Hv] at *
  try simp only[C0,C3,Ck,Gq,Db,D5,std,Nat.reduceAdd] at *
 all_goals first|trivial|omega|exact⟨r1,r2⟩|exact⟨r3,r4,r5,r6⟩|exact U1 _ _|(obtain⟨j1,j3⟩:=i3;simp only[j1] at *;have j0:=j3.1)|skip
 all_goals first|trivial|omega|exact⟨j0,‹_›⟩|(rw[Ag o_];simp only[Qe8,true_and];exact⟨Qv j3 ‹_›,o_⟩)|skip
 all_goals
  have e:=N6 j3 o_;have eq1:y3.2.1.bn=p.bn:=by rw[e]
  have ht:=G6 (runScript p.ba (sheetsOf p.bf) l).2.1
 all_goals first|(simp only[eq1];omega)|skip
 all_goals (unfold runL;(first|rw[Qa1 ‹_›]|rw[Qa3 (by intro q;exact tf q ‹_›)]);rw[e]))
def Tl {p:Sa_} {c:ByteArray} {w:Bool} (h:(parseScript c).2=true):runCode p c w=runL p (parseScript c).1 w:=by unfold runCode;rw[Qa1 h];rfl
def WA {p:Sa_} {c:ByteArray} {w:Bool} (h:(parseScript c).2=false):runCode p c w=say p ⟨#[101,114,114,111,114]⟩:=by
 unfold runCode;rw[Qa3 (by rw[h];decide)];unfold say;split
 ·rename_i hc;rw[addLog,Qa1 hc,GD]
 ·rename_i hc;rw[Hm hc]
def Alh:=Amm.a BO<|Fct.o (KP [1,2,3,6,7,8,9] [18]) Amm.2 func338 (by
 rintro⟨(p:Sa_),(c:ByteArray),(w:Bool),_⟩ hp;refine ho (.cl fCopyPage (p,()) λz2=>.cl AC (c,()) λz3=>.br (!z3.2.1) (.ob (Gq.pre (z2.1,(⟨#[101,114,114,111,114]⟩:ByteArray),()))<|.lt _ (Gq.fn (z2.1,(⟨#[101,114,114,111,114]⟩:ByteArray),())) λz4=>.lf BO (z4.2.1,())) (.ob (C3.pre (z2.1,z3.1,w,()))<|.lt _ (C3.fn (z2.1,z3.1,w,())) λz5=>.lf BO (z5.2.1,()))) ?_;refine Ae ?_ λ_=>(Ae ?_ λ_=>(Ab (λh3=>Aa trivial λ_=>DU (lfY ?_)) (λh3=>Aa ?_ λ_=>DU (lfY ?_))))
 all_goals obtain⟨hp1,hp2,hp3,hp4,hp5⟩:=(show szPage p<=1000000000000/\szBuilder p.ba<=40000000000/\szL AP p.bf<=40000000000/\c.size<=4200000000/\okBod p from hp)
 all_goals try simp only[fCopyPage,AC,BO,C3,Gq,std,Nat.reduceAdd] at *
 all_goals first|trivial|omega|exact⟨by(have h1:=Ac szToken p.bn;have h2:=Es p;show p.bn.length<=_;omega),hp2,hp3,hp5,(Fh c).1⟩|(rw[WA ‹_›])|(rw[Tl ‹_›]))
def AjR:=Alh.a A0<|Fct.o (KP [1,2,3,4,5] [8,14,25,40,54,62]) Alh.2 func282 (by
 rintro⟨(p:Sa_),_⟩ hp;refine ho (let q5_:=(p.bf.length:Int);let q0_:=p.block-(1:Int);let q3_:=p.bf.getD (wr q0_).toNat default;let q2_:=0<=wr q0_/\wr q0_<q5_;.cl fCopyPage (p,()) λz2=>let q4_:Out:=.lf A0 (z2.1,false,());let q1_:Out:=.lf A0 ({z2.1 with block:=(0:Int)},true,());.br (p.inline != 0) (.cl AD (p,()) λz3=>.br (!z3.1) q4_ (.cl Fp (p.ba,p.inline,()) λz4=>.cl BO (z2.1,z4.1,true,()) λz5=>.lf A0 ({z5.1 with inline:=(0:Int)},true,()))) (.br (p.block != 0) (.br (decide (wr q0_<0)) q1_ (.br (decide (wr q0_>=q5_)) q1_ (.ob q2_<|.br (!q3_.done) q4_ (.cl AD (p,()) λz6=>.br (!z6.1) q4_ (.ob q2_<|.br (q3_.code==1) (.ob q2_<|.cl BO (z2.1,q3_.body,true,()) λz7=>.lf A0 ({z7.1 with block:=(0:Int)},true,())) q1_))))) (.cl AK (p,()) λz8=>.lf A0 (z8.1,z8.2.1,())))) ?_;repeat' (guard_target =~ Out.holds _ _;first|refine lfY ?_|refine Ab (λ_=>?_) λ_=>?_|refine Ae ?_ λ_=>?_|refine Aa ?_ λ_=>?_)
 all_goals obtain⟨hp0,hp6,hp5⟩:=(show okParse p from hp)
 all_goals obtain⟨hp1,hp2,hp3,hp4,hp7⟩:=(show okTok p from hp0)
 all_goals
  have hbb:szBuilder p.ba<=2000000000:=by(unfold szBuilder;omega)
  have hpp:=Es p;have hsl:=Ac AP p.bf;have hnl:=Ac szNode p.ba.bi;have htx:=JF p.inline p.ba.bi ⟨#[]⟩
 all_goals rw[show ByteArray.size ⟨#[]⟩=0 from rfl] at htx
 all_goals
  try simp only[fCopyPage,BO,A0,AD,AK,Fp,std,Nat.reduceAdd,fInRange,inRange,OP] at *
  try simp only[OP,Qa2,Qe1,Qa9,Qa8,Ag (show -9223372036854775808<=(p.bf.length:Int)-1/\(p.bf.length:Int)-1<=9223372036854775807 from o_)] at *
 all_goals first|trivial|omega|exact hp0|exact⟨o_,o_,o_,hp5 _ o_,hp5⟩|exact⟨o_,o_,o_,o_,hp5⟩|skip
 all_goals unfold stepParser
 all_goals first|rw[Qa1 ‹_›]|(rw[Qa3 o_];first|rw[Qa1 ‹_›]|rw[Qa3 o_])
 all_goals first|exact⟨rfl,rfl⟩|(unfold stepInline)|(unfold stepBlock)
 all_goals repeat first|rw[Qa1 ‹_›]|rw[Qa3 (by intro q;first|exact tf q ‹_›|exact tf ‹_› q)]|rw[Qa1 o_]|rw[Qa3 o_]|rw[Qa1 (by exact .inl ‹_›)]|rw[Qa1 (by exact .inr ‹_›)]|rw[Qa3 (by rintro(q|q)<;>exact tf ‹_› q)]|fail
 all_goals exact⟨rfl,rfl⟩)
def Abp {p q:Sa_} {a:Sb_} {i:Int} (h:entInv p a q i) (hp:okEnt p a) (b:Sb_):okRL { q with ran:=q.ran++[b]} (entLines p b):=by
 have he:=FW h;have hz:=Mk h hp;have e:=h.2.2.2.1;have eq1:q.bn=p.bn:=by rw[e]
 have hl:=Ac szToken p.bn;have hpp:=Es p;have h1:=hp.1;refine⟨?_,?_,?_,?_,(IX p b).1⟩
 ·show q.bn.length<=_;rw[eq1];omega
 ·show szBuilder q.ba<=_;omega
 ·show szL AP q.bf<=_;rw[he.2];omega
 ·intro j hj;have hj:j<q.bf.length:=hj;show(q.bf.getD j default).body.size<=_;rw[he.2] at hj ⊢;exact hp.2.2.2.2.2 j hj
def QH (p:Sa_) (b:Sb_):(parseModule (p.bh.getD (findMod p.bh b).toNat default).body b.host).2.1=entLines p b:=rfl
def Acg {p q:Sa_} {a:Sb_} {i:Int} (h:entInv p a q i) (b:Sb_) (hn:inL q.ran b=false):runL { q with ran:=q.ran++[b]} (entLines p b) false=enter1 p q b:=by
 have he:=FW h;unfold runL enter1 entRun;rw[Qa3 (show ¬ (false=true) by decide),Qa3 (show ¬ inL q.ran b=true by rw[hn];decide)];simp only[he.2]
def Hi:GS:=⟨[.b (.el .page),.l (.v (.el .addr))],[],λ(x_:Sa_×Sb_×Unit)=>okEnt x_.1 x_.2.1,λ(x_:Sa_×Sb_×Unit)=>((()),(enter x_.1 x_.2.1,()))⟩
abbrev Dg (p:Sa_) (a:Sb_):LInv:=⟨[⟨.s,25,true,.el .int⟩,⟨.b,0,true,.el .page⟩,⟨.s,23,true,.sl .addr⟩],λ(z_ x_:Int×Sa_×(List Sb_)×Unit)=>(entInv p a x_.2.1 x_.1)/\x_.2.2.1=z_.2.2.1,λ(x_:Int×Sa_×(List Sb_)×Unit)=>(reachOf p a).length-x_.1.toNat⟩
def Als:=AjR.G Hi<|GS.of (S:=Hi) (L:=λ⟨p,a,_⟩=>λ|4=>some (Dg p a)|_=>none) (kp:=(KP [0,3,5,7,23,24,25] [13,26,34])) AjR.2 func344 k_ k_ (by
 rintro⟨(p:Sa_),(a:Sb_),_⟩ hp;refine ho (let q2_:=(⟨#[102,97,105,108,32]⟩:ByteArray);.cl B1 (p,a,()) λz2=>.br (z2.1) (.cl Cs (a,()) λz3=>.ob (sameSize q2_ z3.1)<|.ob (Gq.pre (p,q2_++z3.1,()))<|.lt _ (Gq.fn (p,q2_++z3.1,())) λz4=>GS.out Hi ((()),(z4.2.1,()))) (.cl BP (p,a,()) λz5=>let q3_:=(z5.1.length:Int);let q1_:=Value.int IntKind.i64 q3_=Value.int IntKind.i64 q3_;lpx (Dg p a) ((0:Int),(p,(z5.1,()))) λ(y6:Int×Sa_×List Sb_×PUnit) bk6=>let q0_:=({y6.2.1 with ran:=y6.2.1.ran++[y6.2.2.1.getD y6.1.toNat default]}:Sa_);.br (decide (y6.1<q3_)) (.ob (inB y6.1 y6.2.2.1.length)<|.ob (y6.1.toNat<y6.2.2.1.length)<|.cl fHasAddr (y6.2.1.ran,y6.2.2.1.getD y6.1.toNat default,()) λz6=>.br (z6.1) (.ob q1_<|.ob (bk6 (w1 y6.1,(y6.2.1,(y6.2.2.1,()))))<|.ok) (.ob (True)<|.ob (Br (y6.2.1.ran.length+[y6.2.2.1.getD y6.1.toNat default].length) 32)<|.cl fModAt (q0_,y6.2.2.1.getD y6.1.toNat default,()) λ(z7:Int×PUnit)=>.ob (inB z7.1 y6.2.1.bh.length)<|.ob (z7.1.toNat<y6.2.1.bh.length)<|.cl Ay ((y6.2.1.bh.getD z7.1.toNat default).body,(y6.2.2.1.getD y6.1.toNat default).host,()) λz8=>.ob (C3.pre (q0_,z8.2.1,false,()))<|.lt _ (C3.fn (q0_,z8.2.1,false,())) λz9=>.ob q1_<|.ob (bk6 (w1 y6.1,(z9.2.1,(y6.2.2.1,()))))<|.ok)) (GS.out Hi ((()),(y6.2.1,()))))) ?_;repeat' first|(guard_target =~ Out.holds _ _;first|refine Ai (li:=Dg p a) ?_ λ(y6:Int×Sa_×List Sb_×PUnit) i6=>?_|refine GS.leafY ?_|refine Ab (λ_=>?_) λ_=>?_|refine Ae ?_ λ_=>?_|refine Aa ?_ λ_=>?_|refine DU ?_)|exact trivial
 all_goals have hq:okEnt p a:=hp
 all_goals obtain⟨p1,p2,p3,p4,p5,p6⟩:=(show okEnt p a from hp)
 all_goals
  have hfa:=NF a;try simp only[Hv] at *
  try simp only[Dg,Hi,Cs,B1,fHasAddr,fModAt,Ay,BP,C3,Gq,std,Nat.reduceAdd,Ix,OQ] at *
 all_goals first|trivial|omega|exact p2|(unfold sameSize;rw[show ByteArray.size ⟨#[102,97,105,108,32]⟩=5 from rfl];omega)|exact Va p a|(unfold enter;rw[Qa1 ‹_›])|skip
 all_goals (obtain⟨i1,e2⟩:=i6;have em:=(FW i1).1;have i0:=i1.1;have iz:=Mk i1 hq)
 all_goals try simp only[e2,em,QH] at *
 all_goals first|trivial|omega|skip
 all_goals try (have hmem:=A7 (l:=reachOf p a) (i:=y6.1.toNat) o_;have hfnd:=Ko ‹_› hmem;have hfi:=B7 p.bh ((reachOf p a).getD y6.1.toNat default))
 all_goals first|exact⟨hfnd,hfi.1⟩|exact⟨p2.2.1 _ o_,H4 hmem p2.2.2.1⟩|(rw[Ag o_];have e:=JG i1 o_;unfold enter1 at e;rw[Qa1 ‹_›] at e;exact⟨⟨e,trivial⟩,o_⟩)|(unfold enter;rw[Qa3 (by intro q;exact tf q ‹_›)];have e:=i1.2.2.1;rw[KU o_] at e;exact e)|skip
 all_goals
  have hR:=Abp i1 hq ((reachOf p a).getD y6.1.toNat default);have hL:=Acg i1 ((reachOf p a).getD y6.1.toNat default) ‹_›;have em2:=(FW i1).1
 all_goals simp only[em2] at hR hL
 all_goals first|exact hR|(rw[hL,Ag o_];exact⟨⟨JG i1 o_,trivial⟩,o_⟩))
def Ti (p:Sa_) (c:ByteArray) (w:Bool):(runCode p c w).bm=p.bm:=by unfold runCode;split<;>rfl
def K2 (p:Sa_):∀ (l:List Sb_) (q:Sa_),(enterAll p q l).bq=q.bq
 | [],q=>rfl
 | b::l,q=>by have:=K2 p l (enter1 p q b);refine this.trans ?_;unfold enter1;split<;>rfl
def Aar (p:Sa_) (a:Sb_):(enter p a).bq=p.bq:=by
 unfold enter;split
 ·unfold say;split<;>rfl
 ·exact K2 p _ p
def Alm:=Als.a BN<|Fct.o (KP [1,2,3,4,5,6,7] [26,30,52,56,66,87,96]) Als.2 func283 (by
 rintro⟨(p:Sa_),_⟩ hp;refine ho (let q2_:=(⟨#[108,111,97,100]⟩:ByteArray);.cl fCopyPage (p,()) λz2=>let q0_:Out:=.lf BN (z2.1,false,());.cl C9 (p,()) λz3=>.br (!z3.1) q0_ (.br (p.loaded) q0_ (.br (decide (p.bm<0)) q0_ (.br (decide (p.bq<0)) q0_ (.cl Bh (p,()) λ(z4:List Int×PUnit)=>let q1_:=p.bf.getD (z4.1.getD p.bm.toNat default).toNat default;.br (decide (p.bm<(z4.1.length:Int))) (.ob (inB p.bm z4.1.length)<|.ob (p.bm.toNat<z4.1.length)<|.ob (0<=z4.1.getD p.bm.toNat default/\z4.1.getD p.bm.toNat default<(p.bf.length:Int))<|.br (!q1_.done) q0_ (.cl AD (p,()) λz5=>.br (!z5.1) q0_ (.br (q1_.code==1) (.cl BO (z2.1,q1_.body,false,()) λz6=>.lf BN ({z6.1 with bm:=w1 z6.1.bm},true,())) (.lf BN ({z2.1 with bm:=w1 z2.1.bm},true,()))))) (.br (decide (p.bq<(p.bg.length:Int))) (.ob (inB p.bq p.bg.length)<|.cl Bp (p,p.bg.getD p.bq.toNat default,()) λz7=>.br (!z7.1) q0_ (.cl AD (p,()) λz8=>.br (!z8.1) q0_ (.ob (Hi.pre (z2.1,p.bg.getD p.bq.toNat default,()))<|.lt _ (Hi.fn (z2.1,p.bg.getD p.bq.toNat default,())) λz9=>.lf BN ({z9.2.1 with bq:=w1 z9.2.1.bq},true,())))) (.cl Bv (p,()) λ(z10:List Int×PUnit)=>.br ((z10.1.length:Int)==0) (.cl Cc (p,()) λ(z11:List Int×PUnit)=>.br ((z11.1.length:Int)==0) (.ob (Gq.pre (z2.1,q2_,()))<|.lt _ (Gq.fn (z2.1,q2_,())) λz12=>.lf BN ({z12.2.1 with loaded:=true},true,())) q0_) q0_))))))) ?_;repeat' first|(guard_target =~ Out.holds _ _;first|refine lfY ?_|refine Ab (λ_=>?_) λ_=>?_|refine Ae ?_ λ_=>?_|refine Aa ?_ λ_=>?_|refine DU ?_)|exact trivial
 all_goals have hq:okTail p:=hp
 all_goals obtain⟨⟨⟨hp1,hp2,hp3,hp4,hp9⟩,hp8,hp5⟩,hp6,hp10,hp7⟩:=(show okTail p from hp)
 all_goals
  have hbb:szBuilder p.ba<=2000000000:=by(unfold szBuilder;omega)
  have hpp:=Es p;have hsl:=Ac AP p.bf;have hml:=Ac Az p.bh;have hel:=Ac szAddr p.bg;have hdl:(deferredSlots p).length<=p.bf.length:=D1 _ _ _;try simp only[Hv] at *
  try simp only[fCopyPage,Bh,Hi,Bp,C9,Cc,Bv,BO,Gq,BN,AD,std,Nat.reduceAdd,M3,N2] at *
 all_goals first|trivial|omega|skip
 all_goals
  have hds:0<=p.bm->p.bm<(deferredSlots p).length->(defSlot p).body.size<=4200000000:=λa b=>hp5 _ (by have:=If p a b;omega)
  have hes:0<=p.bq->p.bq<p.bg.length->okEnt p (entNow p):=λa b=>Ow hq o_
 all_goals first|exact If p ‹_› ‹_›|exact⟨hp1,o_,o_,hds ‹_› ‹_›,hp5⟩|exact hes ‹_› ‹_›|exact(hes ‹_› ‹_›).2.1|skip
 all_goals unfold stepTail
 all_goals repeat first|rw[Qa1 (by first|assumption|omega|exact .inl ‹_›|exact .inr ‹_›|exact .inr (.inl ‹_›)|exact .inr (.inr (.inl o_))|exact .inr (.inr (.inr o_))|exact .inl o_|exact .inr o_)]|rw[Qa3 (by first|omega|(rintro(q|q|q|q)<;>first|omega|exact tf ‹_› q|exact tf q ‹_›)|(rintro(q|q)<;>first|omega|exact tf ‹_› q))]|unfold tailDefer|unfold tailEnter
 all_goals first|exact⟨rfl,rfl⟩|exact⟨rfl,trivial⟩|(rw[Ag o_];first|exact⟨rfl,rfl⟩|exact⟨rfl,trivial⟩)|(simp only[Ti,Aar];rw[Ag o_];first|exact⟨rfl,rfl⟩|exact⟨rfl,trivial⟩))
abbrev DL (p:Sa_):LInv:=⟨[⟨.b,3,true,.el .page⟩,⟨.s,4,true,.el .int⟩,⟨.b,2,true,.el .page⟩],λ(z_ x_:Sa_×Int×Sa_×Unit)=>(advInv p x_.1 x_.2.1)/\x_.2.2.1=z_.2.2.1,λ(x_:Sa_×Int×Sa_×Unit)=>(2000-x_.2.1).toNat⟩
def AkH:=Alm.a Ct<|Fct.p (KP [1,2,3,4,5,6] [10,19,26]) (λ⟨p,_⟩=>lv [(3,DL p)]) Alm.2 func225 (by
 rintro⟨(p:Sa_),_⟩ hp;refine ho (.cl fCopyPage (p,()) λz2=>lpx (DL p) (z2.1,((0:Int),(default,()))) λ(y2:Sa_×Int×Sa_×PUnit) bk2=>.br (decide (y2.2.1<2000)) (.cl A0 (y2.1,()) λz3=>.br (!z3.2.1) (.cl BN (y2.1,()) λz4=>.br (!z4.2.1) (.lf Ct (y2.1,())) (.ob (bk2 (z4.1,(w1 y2.2.1,(y2.2.2.1,()))))<|.ok)) (.br (!z3.2.1) (.lf Ct (y2.1,())) (.ob (bk2 (z3.1,(w1 y2.2.1,(y2.2.2.1,()))))<|.ok))) (.lf Ct (y2.1,()))) ?_;refine Ae ?_ λ_=>(Ai ?_ λ(y2:Sa_×Int×Sa_×PUnit) i2=>Ab (λh3=>Ae ?_ λ_=>(Ab (λh5=>Ae ?_ λ_=>(Ab (λh7=>lfY ?_) (λh7=>Aa ?_ λ_=>trivial))) (λh5=>Ab (λh9=>lfY ?_) (λh9=>Aa ?_ λ_=>trivial)))) (λh3=>lfY ?_))
 all_goals
  have hq:okAdv p:=hp;have h0:=(Hb (H3 hq)).1.1.1;try simp only[DL,Ct,fCopyPage,A0,BN,std,Nat.reduceAdd] at *
 all_goals first|trivial|omega|skip
 all_goals first|exact H3 hq|exact⟨H3 hq,rfl⟩|(obtain⟨i3,e1⟩:=i2;have ht:=Hb i3)
 all_goals first|exact ht|exact ht.1|exact(tf ‹_› ‹_›).elim|skip
 all_goals first|exact GT i3 (λh=>absurd h o_)|exact GT i3 (λ_=>by rw[JZ ‹_›];assumption)|skip
 all_goals rw[Ag (by have:=i3.1;omega)]
 all_goals first|(have e:=JD i3 ‹_› (by rw[JZ ‹_›];assumption);rw[JZ ‹_›] at e;exact⟨⟨e,e1⟩,o_⟩)|(have e:=JD i3 ‹_› (by rw[P4 ‹_›];assumption);rw[P4 ‹_›] at e;exact⟨⟨e,e1⟩,o_⟩))
def AmZ:=AkH.a Ce<|Fct.o (KP [1,2,3,4,5] [11,27]) AkH.2 func171 (by
 rintro⟨(l:Sc_),_⟩ hp;refine ho (.cl fCopyLoader (l,()) λz2=>.br ((l.parts.length:Int)==0) (.lf Ce (z2.1,false,())) (.ob ((0:Int)<=(0:Int)/\(0:Int)<(l.parts.length:Int))<|.cl Ci (z2.1.page,l.parts.getD 0 default,()) λz3=>.ob ((0:Int)<=(1:Int)/\(1:Int)<=(z2.1.parts.length:Int))<|.br ((↑(z2.1.parts.length-1):Int)==0) (.cl Ej (z3.1,()) λz4=>.cl Ct (z4.1,()) λz5=>.ob (1+(z2.1.parts.length-1)<=z2.1.parts.length)<|.lf Ce (⟨z2.1.net,z5.1,cut z2.1.parts 1 (z2.1.parts.length-1),z2.1.conns,z2.1.guesses⟩,true,())) (.cl Ct (z3.1,()) λz6=>.ob (1+(z2.1.parts.length-1)<=z2.1.parts.length)<|.lf Ce (⟨z2.1.net,z6.1,cut z2.1.parts 1 (z2.1.parts.length-1),z2.1.conns,z2.1.guesses⟩,true,())))) ?_;refine Ae ?_ λ_=>(Ab (λh2=>lfY ?_) (λh2=>Aa ?_ λ_=>Ae ?_ λ_=>(Aa ?_ λ_=>Ab (λh6=>Ae ?_ λ_=>(Ae ?_ λ_=>(Aa ?_ λ_=>lfY ?_))) (λh6=>Ae ?_ λ_=>(Aa ?_ λ_=>lfY ?_)))))
 all_goals have hq:okArr l:=hp
 all_goals obtain⟨hsz1,hsz2,hsz3⟩:=hq.1
 all_goals
  have hpg:szPage l.page<=1000000000000:=by(obtain⟨Q,M,R,h1,h2,h3,h4⟩:=hq.2.2;exact Im h1 o_ h3 h4)
  have hpl:l.parts.length<=2900000:=by(have h1:=hq.2.1;have:=Ac Af l.parts;omega)
  try simp only[Ct,Ce,Ci,fCopyLoader,Ej,std,Nat.reduceAdd] at *
 all_goals first|trivial|omega|(rw[ZT o_];exact⟨rfl,rfl⟩)|(obtain⟨g1,g2,g3,g4,g5⟩:=Uv hq o_)|skip
 all_goals first|trivial|omega|exact⟨g1,g2,g3⟩|skip
 all_goals first|(rw[Pz o_] at g5;first|exact g5|(rw[MJ o_,Pz o_,I6];exact⟨rfl,rfl⟩))|(rw[Pu o_] at g5;first|exact g5|(rw[MJ o_,Pu o_,I6];exact⟨rfl,rfl⟩)))
def Jk (p:Si_) (r:Sf_) (x:Sd_):(usable p r x).1.size<=400:=by
 unfold usable;split
 ·rename_i h;by_cases hi:isResponse x=true
  ·unfold isResponse at hi;simp only[Qa2,Qa9] at hi;exact hi.2.2.1
  ·exfalso;unfold checkResponse at h;split at h
   ·cases h
   ·rw[Qa1 (.inl (by simpa using hi))] at h;cases h
 ·exact Nat.zero_le _
def TI {α:Type} (f:α->α) (m:α) (B:List α):∀ A:List α,(A++m::B).modify A.length f=A++f m::B
 | []=>rfl
 | a::A=>congrArg (List.cons a) (TI f m B A)
def FL {α:Type} [Inhabited α] (f:α->α) {l:List α} {i:Nat} (h:i<l.length):l.modify i f=l.take i++f (l.getD i default)::l.drop (i+1):=by
 have e:(l.take i).length=i:=by rw[Qc0];omega
 have:=TI f (l.getD i default) (l.drop (i+1)) (l.take i);rw[e,<-drop_cons h,Qd2] at this;exact this
def GM {α:Type} (f g:α->α):∀ (l:List α) (i:Nat),(l.modify i f).modify i g=l.modify i λz=>g (f z)
 | [],0=>rfl
 | [],_+1=>rfl
 | _::_,0=>rfl
 | a::l,i+1=>congrArg (List.cons a) (GM f g l i)
def Km {p:Sa_} {k:Int} (h0:0<=k) (h:k<p.bf.length):slotRequest p k=reqOf p (p.bf.getD k.toNat default):=by unfold slotRequest;rw[Qa1 ⟨h0,h⟩];rfl
def Ad6 {p:Sa_} {k:Int} {x:Sd_} (h0:0<=k) (h:k<p.bf.length) (hd:(p.bf.getD k.toNat default).done=false):(((p.bf.modify k.toNat λz=>(⟨z.mode,z.to,z.digest,z.node,true,z.code,z.body⟩:Sn_)).modify k.toNat λz=>(⟨z.mode,z.to,z.digest,z.node,z.done,checkResponse p.bj (slotRequest p k) x,z.body⟩:Sn_)).modify k.toNat λz=>(⟨z.mode,z.to,z.digest,z.node,z.done,z.code,(usable p.bj (slotRequest p k) x).1⟩:Sn_))=p.bf.modify k.toNat (fillS p x):=by
 have hi:k.toNat<p.bf.length:=o_
 rw[GM,GM,FL _ hi,FL _ hi,Km h0 h];unfold fillS;rw[Qa3 (by rw[hd];decide)]
def Oq {p:Sa_} {k:Int} {x:Sd_} (h0:0<=k) (h:k<p.bf.length) (hd:(p.bf.getD k.toNat default).done=true):fillSlot p k x=p:=by
 have hi:k.toNat<p.bf.length:=o_
 have e:p.bf.modify k.toNat (fillS p x)=p.bf:=by rw[FL _ hi];unfold fillS;rw[Qa1 hd,<-drop_cons hi,Qd2]
 unfold fillSlot;rw[Qa1 ⟨h0,h⟩,e]
def Anx:=AmZ.a Dr<|Fct.o (KP [1,3,5,6,7,8] [25]) AmZ.2 func322 (by
 rintro⟨(p:Sa_),(k:Int),(x:Sd_),_⟩ hp;refine ho (.cl fCopyPage (p,()) λz2=>let q0_:Out:=.lf Dr (z2.1,());.cl fInRange (k,(0:Int),wr ((p.bf.length:Int)-(1:Int)),()) λz3=>.br (!z3.1) q0_ (.ob (inB k p.bf.length)<|.br ((p.bf.getD (Int.toNat k) default).done) q0_ (.cl Aw (p,k,()) λz4=>.ob (inB k z2.1.bf.length)<|.ob (Int.toNat k<z2.1.bf.length)<|.lt (List Sn_) (z2.1.bf.modify (Int.toNat k) λz=>({z with done:=true}:Sn_)) λz5=>.cl fCheckResponse (p.bj,z4.1,x,()) λ(z6:Int×PUnit)=>.ob (inB k z5.length)<|.ob (Int.toNat k<z5.length)<|.lt (List Sn_) (z5.modify (Int.toNat k) λz=>({z with code:=z6.1}:Sn_)) λz7=>.cl A5 (p.bj,z4.1,x,()) λz8=>.ob (inB k z7.length)<|.ob (Int.toNat k<z7.length)<|.lt (List Sn_) (z7.modify (Int.toNat k) λz=>({z with body:=z8.1}:Sn_)) λz9=>.lf Dr ({z2.1 with bf:=z9},())))) ?_;refine Ae ?_ λ_=>(Ae trivial λ_=>(Ab (λh2=>lfY ?_) (λh2=>Aa ?_ λ_=>Ab (λh4=>lfY ?_) (λh4=>Ae ?_ λ_=>(Aa ?_ λ_=>Aa ?_ λ_=>DU (Ae ?_ λ_=>(Aa ?_ λ_=>Aa ?_ λ_=>DU (Ae ?_ λ_=>(Aa ?_ λ_=>Aa ?_ λ_=>DU (lfY ?_))))))))))
 all_goals obtain⟨q1,q2,q3,q4,q5,q6,q7⟩:=(show szPage p<=1000000000000/\p.addr.host.size<=4000000000/\(∀ i,i<p.bf.length->AP (p.bf.getD i default)<=50000000000)/\-9223372036854775808<=k/\k<=9223372036854775807/\x.bj.size<=200000000/\x.body.size<=1000000000 from hp)
 all_goals
  have hl:p.bf.length<=1000000000000:=by have:=Ac AP p.bf;simp only[szPage] at q1;omega
  have hpo:szPolicy p.bj<=1000000000000:=by simp only[szPage] at q1;omega
  try simp only[fCheckResponse,fCopyPage,Dr,fInRange,Aw,A5,std,Nat.reduceAdd,inRange] at *
  try rw[Ag o_] at h2
  try simp only[Qa2,Qe1,Qa9,Qa8] at h2
 all_goals first|trivial|omega|(unfold fillSlot;rw[Qa3 o_])|exact(Oq o_ o_ ‹_›).symm|(simp only[List.length_modify];omega)|skip
 all_goals first|(rw[Km o_ o_];have:=q3 k.toNat o_;simp only[AP] at this;exact⟨o_,by simp only[szRequest,reqOf];simp only[szAddr] at *;omega,q6,q7⟩)|(unfold fillSlot;rw[Qa1 o_,<-Ad6 o_ o_ ‹_›]))
def AkB:=Anx.a Dr<|Fct.o (KP [1,3,5,6,7,8] [27]) Anx.2 func354 (by
 rintro⟨(p:Sa_),(k:Int),(x:Sd_),_⟩ hp;refine ho (.cl fCopyPage (p,()) λz2=>let q0_:Out:=.lf Dr (z2.1,());.br (decide (k<0)) q0_ (.br (decide (k>=(p.bf.length:Int))) q0_ (.ob (inB k p.bf.length)<|.br ((p.bf.getD (Int.toNat k) default).done) q0_ (.cl Aw (p,k,()) λz3=>.ob (inB k z2.1.bf.length)<|.ob (Int.toNat k<z2.1.bf.length)<|.lt (List Sn_) (z2.1.bf.modify (Int.toNat k) λz=>({z with done:=true}:Sn_)) λz4=>.cl fCheckResponse (p.bj,z3.1,x,()) λ(z5:Int×PUnit)=>.ob (inB k z4.length)<|.ob (Int.toNat k<z4.length)<|.lt (List Sn_) (z4.modify (Int.toNat k) λz=>({z with code:=z5.1}:Sn_)) λz6=>.cl A5 (p.bj,z3.1,x,()) λz7=>.ob (inB k z6.length)<|.ob (Int.toNat k<z6.length)<|.lt (List Sn_) (z6.modify (Int.toNat k) λz=>({z with body:=z7.1}:Sn_)) λz8=>.lf Dr ({z2.1 with bf:=z8},()))))) ?_;refine Ae ?_ λ_=>(Ab (λh2=>lfY ?_) (λh2=>Ab (λh3=>lfY ?_) (λh3=>Aa ?_ λ_=>Ab (λh5=>lfY ?_) (λh5=>Ae ?_ λ_=>(Aa ?_ λ_=>Aa ?_ λ_=>DU (Ae ?_ λ_=>(Aa ?_ λ_=>Aa ?_ λ_=>DU (Ae ?_ λ_=>(Aa ?_ λ_=>Aa ?_ λ_=>DU (lfY ?_))))))))))
 all_goals obtain⟨q1,q2,q3,q4,q5,q6,q7⟩:=(show szPage p<=1000000000000/\p.addr.host.size<=4000000000/\(∀ i,i<p.bf.length->AP (p.bf.getD i default)<=50000000000)/\-9223372036854775808<=k/\k<=9223372036854775807/\x.bj.size<=200000000/\x.body.size<=1000000000 from hp)
 all_goals
  have hl:p.bf.length<=1000000000000:=by have:=Ac AP p.bf;simp only[szPage] at q1;omega
  have hpo:szPolicy p.bj<=1000000000000:=by simp only[szPage] at q1;omega
  try simp only[fCheckResponse,fCopyPage,Dr,Aw,A5,std,Nat.reduceAdd,fInRange,inRange] at *
  try rw[Ag o_] at h2
  try simp only[Qa2,Qe1,Qa9,Qa8] at h2
 all_goals first|trivial|omega|(unfold fillSlot;rw[Qa3 o_])|exact(Oq o_ o_ ‹_›).symm|(simp only[List.length_modify];omega)|skip
 all_goals first|(rw[Km o_ o_];have:=q3 k.toNat o_;simp only[AP] at this;exact⟨o_,by simp only[szRequest,reqOf];simp only[szAddr] at *;omega,q6,q7⟩)|(unfold fillSlot;rw[Qa1 o_,<-Ad6 o_ o_ ‹_›]))
def fillF (p:Sa_) (a:Sb_) (x:Sd_) (s:Sn_):Sn_:=if s.to=a then fillS p x s else s
def fillTo (p:Sa_) (a:Sb_) (x:Sd_) (i:Nat):Sa_:={ p with bf:=(p.bf.take i).map (fillF p a x)++p.bf.drop i }
def fillAll (p:Sa_) (a:Sb_) (x:Sd_):Sa_:={ p with bf:=p.bf.map (fillF p a x)}
def und1 (s:Sn_):Nat:=if s.done=true then 0 else 1
def UD (p:Sa_) (a:Sb_) (x:Sd_) (s:Sn_):AP (fillF p a x s)+400*und1 (fillF p a x s)<=AP s+400*und1 s/\(fillF p a x s).body.size<=s.body.size+400/\(s.body.size<=2000000->(fillF p a x s).body.size<=2000000):=by
 unfold fillF;split
 ·unfold fillS;split
  ·exact⟨Qa7 _,o_,id⟩
  ·rename_i h;have hu:=Jk p.bj (reqOf p s) x;refine⟨?_,by dsimp only;omega,λ_=>by dsimp only;omega⟩;unfold und1 AP;dsimp only;rw[Qa1 rfl,Qa3 h];omega
 ·exact⟨Qa7 _,o_,id⟩
def TM (p:Sa_) (a:Sb_) (x:Sd_):∀ l:List Sn_,szL AP (l.map (fillF p a x))+400*undS (l.map (fillF p a x))<=szL AP l+400*undS l
 | []=>Qa7 _
 | s::l=>by have h:=TM p a x l;have h1:=(UD p a x s).1;rw[Qc7,Av,Av,undS,undS];unfold und1 at h1;omega
def Age (l:List Sn_) (i:Nat):undS (l.take i)+undS (l.drop i)=undS l:=by rw[<-Lf,Qd2]
def Mv {p:Sa_} {Q M R:Nat} (h:okAll p Q M R) (a:Sb_) (x:Sd_) (i:Nat):okAll (fillTo p a x i) Q M R:=by
 obtain⟨h1,h2,⟨h3,h4⟩,h5,h6,h7⟩:=h;refine⟨h1,h2,⟨?_,λs hs=>?_⟩,h5,h6,h7⟩
 ·unfold slotP at *
  have e1:=Xk AP p.bf i;have e2:=Age p.bf i;have e3:=TM p a x (p.bf.take i);have e4:((p.bf.take i).map (fillF p a x)++p.bf.drop i).length=p.bf.length:=by rw[Qa4,Qe9,<-Qa4,Qd2]
  show szL AP ((p.bf.take i).map (fillF p a x)++p.bf.drop i)+400*undS ((p.bf.take i).map (fillF p a x)++p.bf.drop i)+500000800*(20-((p.bf.take i).map (fillF p a x)++p.bf.drop i).length)<=_;rw[C4,Lf,e4];omega
 ·rcases Qb8.1 hs with q|q
  ·obtain⟨s0,q0,rfl⟩:=Qg6.1 q;exact(UD p a x s0).2.2 (h4 s0 (List.mem_of_mem_take q0))
  ·exact h4 s (List.mem_of_mem_drop q)
def U5 (p:Sa_) (a:Sb_) (x:Sd_):fillTo p a x 0=p:=rfl
def Ih {p:Sa_} {a:Sb_} {x:Sd_} {i:Nat} (h:p.bf.length<=i):fillTo p a x i=fillAll p a x:=by
 unfold fillTo fillAll;rw[Qb0 h,Qb1 h,Qd3]
def Wt (p:Sa_) (a:Sb_) (x:Sd_) (i:Nat):(fillTo p a x i).bf.length=p.bf.length:=by
 show((p.bf.take i).map (fillF p a x)++p.bf.drop i).length=_;rw[Qa4,Qe9,<-Qa4,Qd2]
def Mh {p:Sa_} {a:Sb_} {x:Sd_} {i:Nat} (h:i<p.bf.length):fillTo p a x (i+1)={ p with bf:=(p.bf.take i).map (fillF p a x)++fillF p a x (p.bf.getD i default)::p.bf.drop (i+1)}:=by
 unfold fillTo;rw[take_succ h,List.map_append,Qb4];rfl
def MV {p:Sa_} {a:Sb_} {x:Sd_} {i:Nat} (h:i<p.bf.length) (hs:¬ (p.bf.getD i default).to=a\/(p.bf.getD i default).done=true):fillTo p a x (i+1)=fillTo p a x i:=by
 have e:fillF p a x (p.bf.getD i default)=p.bf.getD i default:=by
  unfold fillF;rcases hs with hs|hs
  ·rw[Qa3 hs]
  ·split
   ·unfold fillS;rw[Qa1 hs]
   ·rfl
 rw[Mh h,e,<-drop_cons h];rfl
def Zl {p:Sa_} {a:Sb_} {x:Sd_} {i:Nat} (h:i<p.bf.length) (hs:(p.bf.getD i default).to=a):fillSlot (fillTo p a x i) (i:Int) x=fillTo p a x (i+1):=by
 unfold fillSlot;rw[Wt,Qa1 o_,Mh h];have e:fillF p a x (p.bf.getD i default)=fillS p x (p.bf.getD i default):=by unfold fillF;rw[Qa1 hs]
 have el:((p.bf.take i).map (fillF p a x)).length=i:=by rw[Qe9,Qc0];omega
 show({ p with bf:=((p.bf.take i).map (fillF p a x)++p.bf.drop i).modify (i:Int).toNat (fillS p x)}:Sa_)=_;have:=TI (fillS p x) (p.bf.getD i default) (p.bf.drop (i+1)) ((p.bf.take i).map (fillF p a x));rw[el] at this;rw[drop_cons h,Qg2,this,e]
def Do {p:Sa_} (h:okAdv p):szPage p<=1000000000000/\szPolicy p.bj+szAddr p.addr<=4000000/\p.bf.length<=100000000000/\(∀ i,i<p.bf.length->AP (p.bf.getD i default)<=50000000000)/\p.bh.length<=60000000000/\okMb p:=by
 obtain⟨Q,M,R,h1,h2,h3,h4⟩:=h;have hz:=Im h1 o_ h3 h4;have hs:szL AP p.bf<=13000000000:=by have:=h1.2.2.1.1;unfold slotP at this;omega
 have hm:szL Az p.bh<=50000000000:=by have:=h1.2.2.2.1.2.1;unfold modP at this;omega
 have l1:=Ac AP p.bf;have l2:=Ac Az p.bh;refine⟨hz,h1.2.2.2.2.2.1,o_,λi hi=>?_,o_,λi hi=>?_⟩
 ·have:=DZ AP hi;omega
 ·have:=h1.2.2.2.1.2.2.2 _ (A7 hi);omega
def N3 {p:Sa_} (h:okAdv p) (a:Sb_) (x:Sd_) (i:Nat):okAdv (fillTo p a x i):=by
 obtain⟨Q,M,R,h1,h2⟩:=h;exact⟨Q,M,R,Mv h1 a x i,h2⟩
def NL {p:Sa_} {a:Sb_} {x:Sd_} {k:Int} (h0:0<=k) (h:k<p.bf.length) (hs:(p.bf.getD k.toNat default).to=a):fillSlot (fillTo p a x k.toNat) k x=fillTo p a x (k.toNat+1):=by
 obtain⟨i,rfl⟩:∃ i:Nat,k=i:=⟨k.toNat,o_⟩;exact Zl o_ hs
def FF:Fct:=⟨[.v (.el .page),.v (.el .addr),.v (.el .bd)],[.el .page],λ(x_:Sa_×Sb_×Sd_×Unit)=>okAdv x_.1/\x_.2.2.1.bj.size<=200000000/\x_.2.2.1.body.size<=1000000000,λ(x_:Sa_×Sb_×Sd_×Unit)=>(fillAll x_.1 x_.2.1 x_.2.2.1,())⟩
abbrev DF (p:Sa_) (a:Sb_) (x:Sd_):LInv:=⟨[⟨.b,7,true,.el .page⟩,⟨.s,8,true,.el .int⟩,⟨.b,3,false,.el .page⟩,⟨.b,4,true,.el .addr⟩,⟨.b,5,true,.el .bd⟩,⟨.b,6,true,.el .page⟩],λ(z_ x_:Sa_×Int×Sa_×Sb_×Sd_×Sa_×Unit)=>((((0<=x_.2.1/\x_.2.1<=p.bf.length/\x_.1=fillTo p a x x_.2.1.toNat)/\x_.2.2.1=z_.2.2.1)/\x_.2.2.2.1=z_.2.2.2.1)/\x_.2.2.2.2.1=z_.2.2.2.2.1)/\x_.2.2.2.2.2.1=z_.2.2.2.2.2.1,λ(x_:Sa_×Int×Sa_×Sb_×Sd_×Sa_×Unit)=>p.bf.length-x_.2.1.toNat⟩
def Ajj:=AkB.a FF<|Fct.p (KP [3,4,5,6,7,8] [15,34]) (λ⟨p,a,x,_⟩=>lv [(3,DF p a x)]) AkB.2 func256 (by
 rintro⟨(p:Sa_),(a:Sb_),(x:Sd_),_⟩ hp;refine ho (.cl fCopyPage (p,()) λz2=>lpx (DF p a x) (z2.1,((0:Int),(p,(a,(x,(default,())))))) λ(y2:Sa_×Int×Sa_×Sb_×Sd_×Sa_×PUnit) bk2=>let q2_:=inB y2.2.1 y2.2.2.1.bf.length;let q1_:=y2.2.2.1.bf.getD y2.2.1.toNat default;let q0_:Out:=.ob (bk2 (y2.1,(w1 y2.2.1,(y2.2.2.1,(y2.2.2.2.1,(y2.2.2.2.2.1,(y2.2.2.2.2.2.1,())))))))<|.ok;.br (decide (y2.2.1<(y2.2.2.1.bf.length:Int))) (.ob q2_<|.br (!q1_.done) (.ob q2_<|.br (q1_.to.host==y2.2.2.2.1.host&&(q1_.to.path==y2.2.2.2.1.path&&true)) (.cl Dr (y2.1,y2.2.1,y2.2.2.2.2.1,()) λz3=>.ob (bk2 (z3.1,(w1 y2.2.1,(y2.2.2.1,(y2.2.2.2.1,(y2.2.2.2.2.1,(y2.2.2.2.2.2.1,())))))))<|.ok) q0_) q0_) (.lf FF (y2.1,()))) ?_;refine Ae ?_ λ_=>(Ai ?_ λ(y2:Sa_×Int×Sa_×Sb_×Sd_×Sa_×PUnit) i2=>Ab (λh3=>Aa ?_ λ_=>Ab (λh5=>Aa ?_ λ_=>Ab (λh7=>Ae ?_ λ_=>(Aa ?_ λ_=>trivial)) (λh7=>Aa ?_ λ_=>trivial)) (λh5=>Aa ?_ λ_=>trivial)) (λh3=>lfY ?_))
 all_goals obtain⟨q1,q2,q3⟩:=(show okAdv p/\x.bj.size<=200000000/\x.body.size<=1000000000 from hp)
 all_goals
  have hok:=Do q1;try simp only[DF,fCopyPage,FF,Dr,std,Nat.reduceAdd] at *
 all_goals first|trivial|omega|exact⟨o_,o_,(U5 p a x).symm⟩|skip
 all_goals (obtain⟨⟨⟨⟨⟨a1,a2,a3⟩,e1⟩,e2⟩,e3⟩,e4⟩:=i2;simp only[a3,e1,e2,e3,Dh,Qa9,Qa8] at *)
 all_goals first|trivial|omega|(rw[Ih o_])|skip
 all_goals
  have hk:=Do (N3 q1 a x y2.2.1.toNat);have hh:(fillTo p a x y2.2.1.toNat).addr.host.size<=4000000:=by have:=hk.2.1;simp only[szAddr] at this;omega
 all_goals first|exact⟨hk.1,o_,hk.2.2.2.1,o_,o_,q2,q3⟩|skip
 all_goals rw[Ag o_,show(y2.2.1+1).toNat=y2.2.1.toNat+1 from o_]
 all_goals first|(rw[NL a1 o_ ‹_›];exact⟨⟨⟨⟨⟨⟨o_,o_,rfl⟩,by trivial⟩,by trivial⟩,by trivial⟩,e4⟩,o_⟩)|(rw[MV o_ (by first|exact .inl ‹_›|exact .inr ‹_›)];exact⟨⟨⟨⟨⟨⟨o_,o_,rfl⟩,by trivial⟩,by trivial⟩,by trivial⟩,e4⟩,o_⟩)|skip)
abbrev DE (p:Sa_) (a:Sb_) (x:Sd_):LInv:=⟨[⟨.b,7,true,.el .page⟩,⟨.s,14,true,.el .int⟩,⟨.b,3,false,.el .page⟩,⟨.b,4,true,.el .addr⟩,⟨.b,5,true,.el .bd⟩,⟨.b,6,true,.el .page⟩],λ(z_ x_:Sa_×Int×Sa_×Sb_×Sd_×Sa_×Unit)=>((((0<=x_.2.1/\x_.2.1<=p.bf.length/\x_.1=fillTo p a x x_.2.1.toNat)/\x_.2.2.1=z_.2.2.1)/\x_.2.2.2.1=z_.2.2.2.1)/\x_.2.2.2.2.1=z_.2.2.2.2.1)/\x_.2.2.2.2.2.1=z_.2.2.2.2.2.1,λ(x_:Sa_×Int×Sa_×Sb_×Sd_×Sa_×Unit)=>p.bf.length-x_.2.1.toNat⟩
def AlM:=Ajj.a FF<|Fct.p (KP [3,4,5,6,7,8,13,14] [15,24]) (λ⟨p,a,x,_⟩=>lv [(3,DE p a x)]) Ajj.2 func291 (by
 rintro⟨(p:Sa_),(a:Sb_),(x:Sd_),_⟩ hp;refine ho (let q1_:=(p.bf.length:Int);let q0_:=Value.int IntKind.i64 q1_=Value.int IntKind.i64 q1_;.cl fCopyPage (p,()) λz2=>lpx (DE p a x) (z2.1,((0:Int),(p,(a,(x,(default,())))))) λ(y2:Sa_×Int×Sa_×Sb_×Sd_×Sa_×PUnit) bk2=>let q2_:=y2.2.2.1.bf.getD y2.2.1.toNat default;.br (decide (y2.2.1<q1_)) (.ob (inB y2.2.1 y2.2.2.1.bf.length)<|.br (q2_.to.host==y2.2.2.2.1.host&&(q2_.to.path==y2.2.2.2.1.path&&true)) (.cl Dr (y2.1,y2.2.1,y2.2.2.2.2.1,()) λz3=>.ob q0_<|.ob (bk2 (z3.1,(w1 y2.2.1,(y2.2.2.1,(y2.2.2.2.1,(y2.2.2.2.2.1,(y2.2.2.2.2.2.1,())))))))<|.ok) (.ob q0_<|.ob (bk2 (y2.1,(w1 y2.2.1,(y2.2.2.1,(y2.2.2.2.1,(y2.2.2.2.2.1,(y2.2.2.2.2.2.1,())))))))<|.ok)) (.lf FF (y2.1,()))) ?_;refine Ae ?_ λ_=>(Ai ?_ λ(y2:Sa_×Int×Sa_×Sb_×Sd_×Sa_×PUnit) i2=>Ab (λh3=>Aa ?_ λ_=>Ab (λh5=>Ae ?_ λ_=>(Aa rfl λ_=>Aa ?_ λ_=>trivial)) (λh5=>Aa rfl λ_=>Aa ?_ λ_=>trivial)) (λh3=>lfY ?_))
 all_goals obtain⟨q1,q2,q3⟩:=(show okAdv p/\x.bj.size<=200000000/\x.body.size<=1000000000 from hp)
 all_goals
  have hok:=Do q1;try simp only[DE,fCopyPage,FF,Dr,std,Nat.reduceAdd] at *
 all_goals first|trivial|omega|exact⟨o_,o_,(U5 p a x).symm⟩|skip
 all_goals (obtain⟨⟨⟨⟨⟨a1,a2,a3⟩,e1⟩,e2⟩,e3⟩,e4⟩:=i2;simp only[a3,e1,e2,e3,Dh,Qa9,Qa8] at *)
 all_goals first|trivial|omega|(rw[Ih o_])|skip
 all_goals
  have hk:=Do (N3 q1 a x y2.2.1.toNat);have hh:(fillTo p a x y2.2.1.toNat).addr.host.size<=4000000:=by have:=hk.2.1;simp only[szAddr] at this;omega
 all_goals first|exact⟨hk.1,o_,hk.2.2.2.1,o_,o_,q2,q3⟩|skip
 all_goals rw[Ag o_,show(y2.2.1+1).toNat=y2.2.1.toNat+1 from o_]
 all_goals first|(rw[NL a1 o_ ‹_›];exact⟨⟨⟨⟨⟨⟨o_,o_,rfl⟩,by trivial⟩,by trivial⟩,by trivial⟩,e4⟩,o_⟩)|(rw[MV o_ (by first|exact .inl ‹_›|exact .inr ‹_›)];exact⟨⟨⟨⟨⟨⟨o_,o_,rfl⟩,by trivial⟩,by trivial⟩,by trivial⟩,e4⟩,o_⟩)|skip)
def fillM (p:Sa_) (x:Sd_) (m:Sg_):Sg_:={ m with done:=true,code:=checkResponse p.bj ⟨5,m.to,p.addr.host,⟨#[]⟩⟩ x,body:=(usable p.bj ⟨5,m.to,p.addr.host,⟨#[]⟩⟩ x).1 }
def fillM0 (p:Sa_) (a:Sb_) (x:Sd_):Sa_:={ p with bh:=p.bh.modify (findMod p.bh a).toNat (fillM p x)}
def fillModule (p:Sa_) (a:Sb_) (x:Sd_):Sa_:=if findMod p.bh a<0\/(p.bh.getD (findMod p.bh a).toNat default).done=true then p else(imports (fillM0 p a x) a).1.foldl askModule (fillM0 p a x)
def Na {p:Sa_} {Q M R:Nat} (h:okAll p Q M R) (a:Sb_) (x:Sd_) (h0:0<=findMod p.bh a) (hd:(p.bh.getD (findMod p.bh a).toNat default).done=false):okAll (fillM0 p a x) Q M R:=by
 have hf:=B7 p.bh a;have hi:(findMod p.bh a).toNat<p.bh.length:=o_
 obtain⟨h1,h2,h3,⟨h4,h5,h6,h7⟩,h8⟩:=h;have hu:=Jk p.bj ⟨5,(p.bh.getD (findMod p.bh a).toNat default).to,p.addr.host,⟨#[]⟩⟩ x;have e:=FL (fillM p x) hi;have t1:=Xk Az p.bh (findMod p.bh a).toNat;have t2:=YG p.bh (findMod p.bh a).toNat;have t3:=AdI p.ran p.bh (findMod p.bh a).toNat;rw[drop_cons hi] at t1 t2 t3;rw[Av] at t1;rw[undM,hd,Qa3 (by decide)] at t2;rw[nrL] at t3;refine⟨h1,h2,h3,⟨h4,?_,?_,λm hm=>?_⟩,h8⟩
 ·unfold modP at *
  show szL Az (p.bh.modify (findMod p.bh a).toNat (fillM p x))+500*undM (p.bh.modify (findMod p.bh a).toNat (fillM p x))+600*(20-p.bg.length)<=M;rw[e,C4,Av,Ll,undM];have e1:Az (fillM p x (p.bh.getD (findMod p.bh a).toNat default))<=Az (p.bh.getD (findMod p.bh a).toNat default)+400:=by unfold Az fillM;dsimp only;omega
  have e2:(fillM p x (p.bh.getD (findMod p.bh a).toNat default)).done=true:=rfl;rw[Qa1 e2];omega
 ·unfold ranP at *
  show szL szAddr p.ran+nrL p.ran (p.bh.modify (findMod p.bh a).toNat (fillM p x))+100*(20-p.bg.length)<=R;rw[e,Pf,nrL];have e3:(fillM p x (p.bh.getD (findMod p.bh a).toNat default)).to=(p.bh.getD (findMod p.bh a).toNat default).to:=rfl;rw[e3];omega
 ·have hm:m∈p.bh.modify (findMod p.bh a).toNat (fillM p x):=hm;rw[e] at hm;rcases Qb8.1 hm with q|q
  ·exact h7 m (List.mem_of_mem_take q)
  ·rcases Qd6.1 q with q|q
   ·rw[q];exact Qd8 hu (by decide)
   ·exact h7 m (List.mem_of_mem_drop q)
def Adz {p:Sa_} {Q M R:Nat} (h:okAll p Q M R) {b:Sb_} (hb:b.host.size<=8/\b.path.size<=8):okAll (askModule p b) Q (M+600) (R+20):=by
 obtain⟨h1,h2,h3,⟨h4,h5,h6,h7⟩,h8⟩:=h;obtain⟨a1,a2,a3,a4,a5⟩:=Adp p b;have hs:szAddr b<=16:=by unfold szAddr;omega
 rw[a5];refine⟨h1,h2,h3,⟨h4,?_,?_,λm hm=>?_⟩,h8⟩
 ·unfold modP at *;dsimp only;omega
 ·unfold ranP at *;dsimp only;omega
 ·rcases a4 m hm with q|q
  ·exact h7 m q
  ·omega
def SY {Q:Nat}:∀ (l:List Sb_) (p:Sa_) (M R:Nat),okAll p Q M R->(∀ b,b∈l->b.host.size<=8/\b.path.size<=8)->okAll (l.foldl askModule p) Q (M+600*l.length) (R+20*l.length)
 | [],p,M,R,h,_=>h
 | b::l,p,M,R,h,hb=>by
  have:=SY l (askModule p b) (M+600) (R+20) (Adz h (hb b Qd7)) λc hc=>hb c (Qc4 _ hc)
  rw[Qg7,Qa6];rw[show M+600*(l.length+1)=M+600+600*l.length from o_,show R+20*(l.length+1)=R+20+20*l.length from o_];exact this
def Hl (p:Sa_) (a:Sb_) (x:Sd_) (h0:0<=findMod p.bh a):findMod (fillM0 p a x).bh a=findMod p.bh a/\(fillM0 p a x).bh.getD (findMod p.bh a).toNat default=fillM p x (p.bh.getD (findMod p.bh a).toNat default):=by
 have hf:=B7 p.bh a;have hi:(findMod p.bh a).toNat<p.bh.length:=o_
 have gen:∀ (l:List Sg_) (k:Int) (i:Nat) (f:Sg_->Sg_),(∀ m,(f m).to=m.to)->fidx (λm:Sg_=>decide (m.to=a)) (l.modify i f) k=fidx (λm:Sg_=>decide (m.to=a)) l k:=by
  intro l
  induction l with
  | nil=>intro k i f hf;cases i<;>rfl
  | cons m l ih=>
   intro k i f hf;cases i with
   | zero=>
    show fidx _ (f m::l) k=_;rw[fidx,fidx,hf m]
   | succ i=>
    show fidx _ (m::l.modify i f) k=_;rw[fidx,fidx,ih (k+1) i f hf]
 refine⟨gen p.bh 0 _ _ λ_=>rfl,?_⟩;show(p.bh.modify (findMod p.bh a).toNat (fillM p x)).getD (findMod p.bh a).toNat default=_;rw[FL _ hi];have e:(p.bh.take (findMod p.bh a).toNat).length=(findMod p.bh a).toNat:=by rw[Qc0];omega
 rw[Qb2,Qb6 o_,e,Nat.sub_self];rfl
def KB {p:Sa_} {a:Sb_} {x:Sd_} (h0:0<=findMod p.bh a):(∀ b,b∈(imports (fillM0 p a x) a).1->b.host.size<=8/\b.path.size<=8)/\(imports (fillM0 p a x) a).1.length<=400:=by
 obtain⟨h1,h2⟩:=EE (fillM0 p a x) a;refine⟨h1,?_⟩;obtain⟨f1,f2⟩:=Hl p a x h0;rw[f1,f2] at h2;have hu:=Jk p.bj ⟨5,(p.bh.getD (findMod p.bh a).toNat default).to,p.addr.host,⟨#[]⟩⟩ x;rcases h2 with h2|⟨_,h2⟩
 ·rw[h2];exact Nat.zero_le _
 ·exact Qd8 h2 hu
def Pq {p:Sa_} {Q M R:Nat} (h:okAll p Q M R) (a:Sb_) (x:Sd_):okAll (fillModule p a x) Q (M+240000) (R+8000):=by
 have mono:∀ {q:Sa_} {M' R':Nat},okAll q Q M' R'->M'<=M+240000->R'<=R+8000->okAll q Q (M+240000) (R+8000):=λh hM hR=>by obtain⟨h1,h2,h3,⟨h4,h5,h6,h7⟩,h8⟩:=h;exact⟨h1,h2,h3,⟨h4,o_,o_,h7⟩,h8⟩
 unfold fillModule;split
 ·exact mono h o_ o_
 ·rename_i hc;have h0:0<=findMod p.bh a:=o_
  have hd:(p.bh.getD (findMod p.bh a).toNat default).done=false:=by
   cases hq:(p.bh.getD (findMod p.bh a).toNat default).done with
   | false=>rfl
   | true=>exact absurd (.inr hq) hc
  obtain⟨i1,i2⟩:=KB (x:=x) h0;exact mono (SY _ _ M R (Na h a x h0 hd) i1) o_ o_
def fmInv (p:Sa_) (a:Sb_) (x:Sd_) (q:Sa_) (i:Int):Prop:=0<=i/\i<=(imports (fillM0 p a x) a).1.length/\((imports (fillM0 p a x) a).1.drop i.toNat).foldl askModule q=(imports (fillM0 p a x) a).1.foldl askModule (fillM0 p a x)/\∃ Q M R,okAll q Q (M+600*i.toNat) (R+20*i.toNat)/\Q<=899000000000/\M<=49000000000/\R<=19000000000
def okFM (p:Sa_):Prop:=∃ Q M R,okAll p Q M R/\Q<=899000000000/\M<=49000000000/\R<=19000000000
def Ev {p:Sa_} (h:okFM p):okAdv p:=by
 obtain⟨Q,M,R,h1,h2,h3,h4⟩:=h;exact⟨Q,M,R,h1,h2,o_,o_⟩
def Js {p q:Sa_} {a:Sb_} {x:Sd_} {i:Int} (h:fmInv p a x q i) (hi:(imports (fillM0 p a x) a).1.length<=400):okAdv q:=by
 obtain⟨h1,h2,_,Q,M,R,h3,h4,h5,h6⟩:=h;exact⟨Q,_,_,h3,h4,o_,o_⟩
def L5 {p:Sa_} {a:Sb_} {x:Sd_} (h:okFM p) (h0:0<=findMod p.bh a) (hd:(p.bh.getD (findMod p.bh a).toNat default).done=false):fmInv p a x (fillM0 p a x) 0:=by
 obtain⟨Q,M,R,h1,h2⟩:=h;exact⟨o_,o_,rfl,Q,M,R,Na h1 a x h0 hd,h2⟩
def Ul {p q:Sa_} {a:Sb_} {x:Sd_} {i:Int} (h:fmInv p a x q i) (h0:0<=findMod p.bh a) (hi:i<(imports (fillM0 p a x) a).1.length):fmInv p a x (askModule q ((imports (fillM0 p a x) a).1.getD i.toNat default)) (i+1):=by
 obtain⟨h1,h2,h3,Q,M,R,h4,h5⟩:=h;have hb:=(KB (x:=x) h0).1 _ (A7 (show i.toNat<(imports (fillM0 p a x) a).1.length from o_));rw[drop_cons (show i.toNat<(imports (fillM0 p a x) a).1.length from o_),Qg7] at h3;refine⟨o_,o_,by rw[show(i+1).toNat=i.toNat+1 from o_];exact h3,Q,M,R,?_,h5⟩;have:=Adz h4 hb;rw[show(i+1).toNat=i.toNat+1 from o_,show M+600*(i.toNat+1)=M+600*i.toNat+600 from o_,show R+20*(i.toNat+1)=R+20*i.toNat+20 from o_];exact this
def QO {p q:Sa_} {a:Sb_} {x:Sd_} {i:Int} (h:fmInv p a x q i) (h0:0<=findMod p.bh a) (hd:(p.bh.getD (findMod p.bh a).toNat default).done=false) (hi:(imports (fillM0 p a x) a).1.length<=i):q=fillModule p a x:=by
 have e:=h.2.2.1;rw[Qb1 o_] at e;unfold fillModule;rw[Qa3 (by rintro(q|q);exact absurd q o_;rw[hd] at q;cases q)];exact e
def Lw {p:Sa_} {k:Int} (h0:0<=k) (h:k<p.bh.length):modRequest p k=⟨5,(p.bh.getD k.toNat default).to,p.addr.host,⟨#[]⟩⟩:=by unfold modRequest;rw[Qa1 ⟨h0,h⟩]
def Ag6 {p:Sa_} {a:Sb_} {x:Sd_} (h0:0<=findMod p.bh a):(((p.bh.modify (findMod p.bh a).toNat λz=>(⟨z.to,true,z.code,z.body⟩:Sg_)).modify (findMod p.bh a).toNat λz=>(⟨z.to,z.done,checkResponse p.bj (modRequest p (findMod p.bh a)) x,z.body⟩:Sg_)).modify (findMod p.bh a).toNat λz=>(⟨z.to,z.done,z.code,(usable p.bj (modRequest p (findMod p.bh a)) x).1⟩:Sg_))=(fillM0 p a x).bh:=by
 have hf:=B7 p.bh a;have hi:(findMod p.bh a).toNat<p.bh.length:=o_
 rw[GM,GM];show _=p.bh.modify (findMod p.bh a).toNat (fillM p x);rw[FL _ hi,FL _ hi,Lw h0 hf.1];rfl
def fmp (p:Sa_) (a:Sb_) (x:Sd_):(⟨p.addr,p.bj,p.tok,p.bn,p.ended,p.ba,p.bf,(fillM0 p a x).bh,p.bg,p.block,p.inline,p.bm,p.bq,p.ran,p.log,p.loaded⟩:Sa_)=fillM0 p a x:=rfl
def AfH (p:Sa_) (a:Sb_) (x:Sd_):(fillM0 p a x).bh.length=p.bh.length:=List.length_modify ..
def Rr {p:Sa_} (h:okAdv p) {k:Int} (h0:0<=k) (hk:k<p.bh.length):szRequest (modRequest p k)<=60000000000:=by
 obtain⟨Q,M,R,h1,h2,h3,h4⟩:=h;have hm:szL Az p.bh<=50000000000:=by have:=h1.2.2.2.1.2.1;unfold modP at this;omega
 have:=DZ Az (l:=p.bh) (i:=k.toNat) o_;have ha:=h1.2.2.2.2.2.1;have hz:ByteArray.size ⟨#[]⟩=0:=rfl;rw[Lw h0 hk];simp only[Az,szRequest,szAddr,hz] at *;omega
def AhU {p:Sa_} {a:Sb_} {x:Sd_} (h0:0<=findMod p.bh a) (hc:((fillM0 p a x).bh.getD (findMod p.bh a).toNat default).code=1):(parseModule ((fillM0 p a x).bh.getD (findMod p.bh a).toNat default).body a.host).1=(imports (fillM0 p a x) a).1:=by
 have hF:=Hl p a x h0;have:=KQ (p:=fillM0 p a x) (a:=a) (by rw[hF.1];exact h0) (by rw[hF.1,hF.2];rfl) (by rw[hF.1];exact hc);rw[hF.1] at this;exact this
def An2 {p:Sa_} {a:Sb_} {x:Sd_} (h0:0<=findMod p.bh a) (hd:(p.bh.getD (findMod p.bh a).toNat default).done=false) (hc:¬ ((fillM0 p a x).bh.getD (findMod p.bh a).toNat default).code=1):fillM0 p a x=fillModule p a x:=by
 have hF:=Hl p a x h0;unfold fillModule;rw[Qa3 (by rintro(q|q);exact absurd q o_;rw[hd] at q;cases q),JU (.inr (.inr (by rw[hF.1];exact hc)))];rfl
def CM:Fct:=⟨[.v (.el .page),.v (.el .addr),.v (.el .bd)],[.el .page],λ(x_:Sa_×Sb_×Sd_×Unit)=>okFM x_.1/\szAddr x_.2.1<=4000000000/\x_.2.2.1.bj.size<=200000000/\x_.2.2.1.body.size<=1000000000,λ(x_:Sa_×Sb_×Sd_×Unit)=>(fillModule x_.1 x_.2.1 x_.2.2.1,())⟩
abbrev Bg (p:Sa_) (a:Sb_) (x:Sd_):LInv:=⟨[⟨.b,7,true,.el .page⟩,⟨.s,12,true,.el .int⟩,⟨.b,6,true,.el .page⟩,⟨.s,10,true,.sl .addr⟩],λ(z_ x_:Sa_×Int×Sa_×(List Sb_)×Unit)=>((fmInv p a x x_.1 x_.2.1)/\x_.2.2.1=z_.2.2.1)/\x_.2.2.2.1=z_.2.2.2.1,λ(x_:Sa_×Int×Sa_×(List Sb_)×Unit)=>(imports (fillM0 p a x) a).1.length-x_.2.1.toNat⟩
def AkM:=AlM.a CM<|Fct.p (KP [3,4,5,6,7,8,9,10,12] [27,69]) (λ⟨p,a,x,_⟩=>lv [(11,Bg p a x)]) AlM.2 func255 (by
 rintro⟨(p:Sa_),(a:Sb_),(x:Sd_),_⟩ hp;refine ho (let q2_:=List Sg_;.cl fCopyPage (p,()) λz2=>let q1_:Out:=.lf CM (z2.1,());.cl fModAt (p,a,()) λ(z3:Int×PUnit)=>.br (decide (z3.1<0)) q1_ (.ob (inB z3.1 p.bh.length)<|.br ((p.bh.getD z3.1.toNat default).done) q1_ (.cl AE (p,z3.1,()) λz4=>.ob (inB z3.1 z2.1.bh.length)<|.ob (z3.1.toNat<z2.1.bh.length)<|.lt q2_ (z2.1.bh.modify z3.1.toNat λz=>({z with done:=true}:Sg_)) λz5=>.cl fCheckResponse (p.bj,z4.1,x,()) λ(z6:Int×PUnit)=>.ob (inB z3.1 z5.length)<|.ob (z3.1.toNat<z5.length)<|.lt q2_ (z5.modify z3.1.toNat λz=>({z with code:=z6.1}:Sg_)) λz7=>.cl A5 (p.bj,z4.1,x,()) λz8=>.ob (inB z3.1 z7.length)<|.ob (z3.1.toNat<z7.length)<|.lt q2_ (z7.modify z3.1.toNat λz=>({z with body:=z8.1}:Sg_)) λz9=>let q0_:=({z2.1 with bh:=z9}:Sa_);.cl D0 (q0_,a,()) λz10=>lpx (Bg p a x) (q0_,((0:Int),(default,(z10.1,())))) λ(y16:Sa_×Int×Sa_×List Sb_×PUnit) bk16=>.br (decide (y16.2.1<(y16.2.2.2.1.length:Int))) (.ob (inB y16.2.1 y16.2.2.2.1.length)<|.ob (y16.2.1.toNat<y16.2.2.2.1.length)<|.cl AL (y16.1,y16.2.2.2.1.getD y16.2.1.toNat default,()) λz11=>.ob (Value.int IntKind.i64 z3.1=Value.int IntKind.i64 z3.1)<|.ob (bk16 (z11.1,(w1 y16.2.1,(y16.2.2.1,(y16.2.2.2.1,())))))<|.ok) (.lf CM (y16.1,()))))) ?_;repeat' first|(guard_target =~ Out.holds _ _;first|refine Ai (li:=Bg p a x) ?_ λ(y16:Sa_×Int×Sa_×List Sb_×PUnit) i16=>?_|refine lfY ?_|refine Ab (λ_=>?_) λ_=>?_|refine Ae ?_ λ_=>?_|refine Aa ?_ λ_=>?_|refine DU ?_)|exact trivial
 all_goals obtain⟨q1,q0,q2,q3⟩:=(show okFM p/\szAddr a<=4000000000/\x.bj.size<=200000000/\x.body.size<=1000000000 from hp)
 all_goals
  have hok:=Do (Ev q1);have hf:=B7 p.bh a;try simp only[Hv] at *
  try simp only[Bg,AL,fCheckResponse,fCopyPage,CM,D0,fModAt,AE,A5,std,Nat.reduceAdd,Ix] at *
 all_goals first|trivial|omega|skip
 all_goals first|(unfold fillModule;rw[Qa1 (by first|exact .inl ‹_›|exact .inr ‹_›)];done)|skip
 all_goals
  have h0:0<=findMod p.bh a:=o_
  have hd:(p.bh.getD (findMod p.bh a).toNat default).done=false:=‹_›
  have hq:=Rr (Ev q1) h0 hf.1;have hI:=KB (x:=x) h0;have hA:=Js (L5 (x:=x) q1 h0 hd) hI.2;have hB:=Do hA;try simp only[Ag6 h0,fmp,AfH,List.length_modify] at *
 all_goals first|trivial|omega|exact⟨o_,o_,q2,q3⟩|exact⟨o_,hB.2.2.2.2.2,by simp only[szAddr] at q0;omega⟩|exact L5 q1 h0 hd|skip
 all_goals (obtain⟨⟨i1,e1⟩,e2⟩:=i16;simp only[e2] at *;have hi0:=i1.1;have hi1:=i1.2.1)
 all_goals first|trivial|omega|(rw[QO i1 h0 hd o_];done)|skip
 all_goals
  have hj:=Do (Js i1 hI.2);have hb:=hI.1 _ (A7 (show y16.2.1.toNat<(imports (fillM0 p a x) a).1.length from o_))
 all_goals first|exact⟨o_,by have h7:=hj.2.1;simp only[szAddr] at h7;omega,by simp only[szAddr];omega⟩|(rw[Ag o_];exact⟨⟨⟨Ul i1 h0 o_,e1⟩,trivial⟩,o_⟩)|skip)
abbrev B9 (p:Sa_) (a:Sb_) (x:Sd_):LInv:=⟨[⟨.b,7,true,.el .page⟩,⟨.s,84,true,.el .int⟩,⟨.b,6,true,.el .page⟩,⟨.s,82,true,.sl .addr⟩],λ(z_ x_:Sa_×Int×Sa_×(List Sb_)×Unit)=>((fmInv p a x x_.1 x_.2.1)/\x_.2.2.1=z_.2.2.1)/\x_.2.2.2.1=z_.2.2.2.1,λ(x_:Sa_×Int×Sa_×(List Sb_)×Unit)=>(imports (fillM0 p a x) a).1.length-x_.2.1.toNat⟩
def Ali:=AkM.a CM<|Fct.p (KP [3,4,5,6,7,8,9,10,14,82,83,84] [29,68,85]) (λ⟨p,a,x,_⟩=>lv [(12,B9 p a x)]) AkM.2 func290 (by
 rintro⟨(p:Sa_),(a:Sb_),(x:Sd_),_⟩ hp;refine ho (let q3_:=List Sg_;.cl fCopyPage (p,()) λz2=>let q1_:Out:=.lf CM (z2.1,());.cl fModAt (p,a,()) λ(z3:Int×PUnit)=>.br (decide (z3.1<0)) q1_ (.ob (inB z3.1 p.bh.length)<|.br ((p.bh.getD z3.1.toNat default).done) q1_ (.cl AE (p,z3.1,()) λz4=>.ob (inB z3.1 z2.1.bh.length)<|.ob (z3.1.toNat<z2.1.bh.length)<|.lt q3_ (z2.1.bh.modify z3.1.toNat λz=>({z with done:=true}:Sg_)) λz5=>.cl fCheckResponse (p.bj,z4.1,x,()) λ(z6:Int×PUnit)=>.ob (inB z3.1 z5.length)<|.ob (z3.1.toNat<z5.length)<|.lt q3_ (z5.modify z3.1.toNat λz=>({z with code:=z6.1}:Sg_)) λz7=>.cl A5 (p.bj,z4.1,x,()) λz8=>.ob (inB z3.1 z7.length)<|.ob (z3.1.toNat<z7.length)<|.lt q3_ (z7.modify z3.1.toNat λz=>({z with body:=z8.1}:Sg_)) λz9=>let q4_:=z3.1.toNat<z9.length;let q2_:=z9.getD z3.1.toNat default;.ob (inB z3.1 z9.length)<|.ob q4_<|.br (q2_.code==1) (.ob (inB z3.1 z9.length)<|.ob q4_<|.cl Ay (q2_.body,a.host,()) λz10=>let q0_:=(z10.1.length:Int);lpx (B9 p a x) (({z2.1 with bh:=z9}:Sa_),((0:Int),(default,(z10.1,())))) λ(y21:Sa_×Int×Sa_×List Sb_×PUnit) bk21=>.br (decide (y21.2.1<q0_)) (.ob (inB y21.2.1 y21.2.2.2.1.length)<|.ob (y21.2.1.toNat<y21.2.2.2.1.length)<|.cl AL (y21.1,y21.2.2.2.1.getD y21.2.1.toNat default,()) λz11=>.ob (Value.int IntKind.i64 z3.1=Value.int IntKind.i64 z3.1)<|.ob (Value.int IntKind.i64 q0_=Value.int IntKind.i64 q0_)<|.ob (bk21 (z11.1,(w1 y21.2.1,(y21.2.2.1,(y21.2.2.2.1,())))))<|.ok) (.lf CM (y21.1,()))) (.lf CM ({z2.1 with bh:=z9},()))))) ?_;refine Ae ?_ λ_=>(Ae ?_ λ_=>(Ab (λh3=>lfY ?_) (λh3=>Aa ?_ λ_=>Ab (λh5=>lfY ?_) (λh5=>Ae ?_ λ_=>(Aa ?_ λ_=>Aa ?_ λ_=>DU (Ae ?_ λ_=>(Aa ?_ λ_=>Aa ?_ λ_=>DU (Ae ?_ λ_=>(Aa ?_ λ_=>Aa ?_ λ_=>DU (Aa ?_ λ_=>Aa ?_ λ_=>Ab (λh17=>Aa ?_ λ_=>Aa ?_ λ_=>Ae ?_ λ_=>(Ai ?_ λ(y21:Sa_×Int×Sa_×List Sb_×PUnit) i21=>Ab (λh22=>Aa ?_ λ_=>Aa ?_ λ_=>Ae ?_ λ_=>(Aa rfl λ_=>Aa rfl λ_=>Aa ?_ λ_=>trivial)) (λh22=>lfY ?_))) (λh17=>lfY ?_)))))))))))
 all_goals obtain⟨q1,q0,q2,q3⟩:=(show okFM p/\szAddr a<=4000000000/\x.bj.size<=200000000/\x.body.size<=1000000000 from hp)
 all_goals
  have hok:=Do (Ev q1);have hf:=B7 p.bh a;try simp only[Hv] at *
  try simp only[B9,AL,fCheckResponse,fCopyPage,CM,fModAt,AE,Ay,A5,std,Nat.reduceAdd,Ix] at *
 all_goals first|trivial|omega|skip
 all_goals first|(unfold fillModule;rw[Qa1 (by first|exact .inl ‹_›|exact .inr ‹_›)];done)|skip
 all_goals
  have h0:0<=findMod p.bh a:=o_
  have hd:(p.bh.getD (findMod p.bh a).toNat default).done=false:=‹_›
  have hq:=Rr (Ev q1) h0 hf.1;have hI:=KB (x:=x) h0;have hA:=Js (L5 (x:=x) q1 h0 hd) hI.2;have hB:=Do hA;try simp only[Ag6 h0,fmp,AfH,List.length_modify] at *
 all_goals first|trivial|omega|exact⟨o_,o_,q2,q3⟩|exact⟨o_,hB.2.2.2.2.2,by simp only[szAddr] at q0;omega⟩|exact L5 q1 h0 hd|skip
 all_goals first|(exact An2 h0 hd ‹_›)|(have hc:((fillM0 p a x).bh.getD (findMod p.bh a).toNat default).code=1:=by assumption)
 all_goals have hy:=AhU h0 hc
 all_goals first|exact⟨hB.2.2.2.2.2 _ (by rw[AfH];omega),by simp only[szAddr] at q0;omega⟩|exact L5 q1 h0 hd|skip
 all_goals (obtain⟨⟨i1,e1⟩,e2⟩:=i21;simp only[e2,hy] at *;have hi0:=i1.1;have hi1:=i1.2.1)
 all_goals first|trivial|omega|(rw[QO i1 h0 hd o_];done)|skip
 all_goals
  have hj:=Do (Js i1 hI.2);have hb:=hI.1 _ (A7 (show y21.2.1.toNat<(imports (fillM0 p a x) a).1.length from o_))
 all_goals first|exact⟨o_,by have h7:=hj.2.1;simp only[szAddr] at h7;omega,by simp only[szAddr];omega⟩|(rw[Ag o_];exact⟨⟨⟨Ul i1 h0 o_,e1⟩,trivial⟩,o_⟩)|skip)
def takeAnswer (p:Sa_) (a:Sb_) (x:Sd_):Sa_:=advance (fillModule (fillAll p a x) a x)
def RJ {p:Sa_} (h:okFM p) (a:Sb_) (x:Sd_):okFM (fillAll p a x):=by
 obtain⟨Q,M,R,h1,h2⟩:=h;have:=Mv h1 a x p.bf.length;rw[Ih (Qa7 _)] at this;exact⟨Q,M,R,this,h2⟩
def AcF {p:Sa_} (h:okFM p) (a:Sb_) (x:Sd_):okAdv (fillModule p a x):=by
 obtain⟨Q,M,R,h1,h2,h3,h4⟩:=h;exact⟨Q,_,_,Pq h1 a x,h2,o_,o_⟩
def A4:Fct:=⟨[.v (.el .page),.v (.el .addr),.v (.el .bd)],[.el .page],λ(x_:Sa_×Sb_×Sd_×Unit)=>okFM x_.1/\szAddr x_.2.1<=4000000000/\x_.2.2.1.bj.size<=200000000/\x_.2.2.1.body.size<=1000000000,λ(x_:Sa_×Sb_×Sd_×Unit)=>(takeAnswer x_.1 x_.2.1 x_.2.2.1,())⟩
theorem q26 (p:Sa_) (a:Sb_) (x:Sd_) (hp:A4.pre (p,a,x,())):Out.holds (A4.ctr (p,a,x,())).post (.cl FF (p,a,x,()) λz2=>.cl CM (z2.1,a,x,()) λz3=>.cl Ct (z3.1,()) λz4=>.lf A4 (z4.1,())):=by
 refine Ae ?_ λ_=>(Ae ?_ λ_=>(Ae ?_ λ_=>(lfY ?_)))
 all_goals obtain⟨q1,q0,q2,q3⟩:=(show okFM p/\szAddr a<=4000000000/\x.bj.size<=200000000/\x.body.size<=1000000000 from hp)
 all_goals try simp only[Ct,FF,CM,A4,std,Nat.reduceAdd] at *
 all_goals first|exact⟨Ev q1,q2,q3⟩|exact⟨RJ q1 a x,q0,q2,q3⟩|exact AcF (RJ q1 a x) a x|rfl|trivial
def AjH:=Ali.a A4<|Fct.o [3,4,5,6] Ali.2 func191 (by
 rintro⟨(p:Sa_),(a:Sb_),(x:Sd_),_⟩ hp;exact ho _ (q26 p a x hp))
def Aj9:=AjH.a A4<|Fct.o [3,4,5,6] AjH.2 func230 (by
 rintro⟨(p:Sa_),(a:Sb_),(x:Sd_),_⟩ hp;exact ho _ (q26 p a x hp))
def nextNeeds (p:Sa_):List Sf_:=(openSlots p).map (slotRequest p)++(openMods p).map (modRequest p)
def T3 {p:Sa_} {i:Nat} (h:i<(openSlots p).length):0<=(openSlots p).getD i default/\(openSlots p).getD i default<p.bf.length:=by
 have:=FH (λs:Sn_=>!s.done) p.bf 0 _ (A7 h);unfold openSlots at *;omega
def TU {p:Sa_} {i:Nat} (h:i<(openMods p).length):0<=(openMods p).getD i default/\(openMods p).getD i default<p.bh.length:=by
 have:=FH (λs:Sg_=>!s.done) p.bh 0 _ (A7 h);unfold openMods at *;omega
def N9 {α β:Type} [Inhabited α] (f:α->β) {l:List α} {i:Nat} (h:i<l.length):(l.drop i).map f=f (l.getD i default)::(l.drop (i+1)).map f:=by rw[drop_cons h];rfl
def Ky {α β:Type} (f:α->β) {l:List α} {i:Nat} (h:l.length<=i):(l.drop i).map f=[]:=by rw[Qb1 h];rfl
def Bu:Fct:=⟨[.v (.el .page)],[.sl .request],λ(x_:Sa_×Unit)=>x_.1.bf.length+x_.1.bh.length<=1000000000000,λ(x_:Sa_×Unit)=>(nextNeeds x_.1,())⟩
abbrev CF (p:Sa_):LInv:=⟨[⟨.s,3,true,.sl .request⟩,⟨.s,5,true,.el .int⟩,⟨.b,1,false,.el .page⟩,⟨.s,4,true,.sl .int⟩],λ(z_ x_:(List Sf_)×Int×Sa_×(List Int)×Unit)=>((0<=x_.2.1/\x_.2.1<=(openSlots p).length/\x_.1.length<=x_.2.1/\x_.1++((openSlots p).drop x_.2.1.toNat).map (slotRequest p)=(openSlots p).map (slotRequest p))/\x_.2.2.1=z_.2.2.1)/\x_.2.2.2.1=z_.2.2.2.1,λ(x_:(List Sf_)×Int×Sa_×(List Int)×Unit)=>(openSlots p).length-x_.2.1.toNat⟩
abbrev CL (p:Sa_):LInv:=⟨[⟨.s,3,true,.sl .request⟩,⟨.s,7,true,.el .int⟩,⟨.b,1,false,.el .page⟩,⟨.s,6,true,.sl .int⟩],λ(z_ x_:(List Sf_)×Int×Sa_×(List Int)×Unit)=>((0<=x_.2.1/\x_.2.1<=(openMods p).length/\x_.1.length<=(openSlots p).length+x_.2.1/\x_.1++((openMods p).drop x_.2.1.toNat).map (modRequest p)=nextNeeds p)/\x_.2.2.1=z_.2.2.1)/\x_.2.2.2.1=z_.2.2.2.1,λ(x_:(List Sf_)×Int×Sa_×(List Int)×Unit)=>(openMods p).length-x_.2.1.toNat⟩
def AlE:=Aj9.a Bu<|Fct.p (KP [1,2,3,4,5,6,7] [14,31]) (λ⟨p,_⟩=>λ|4=>some (CF p)|9=>some (CL p)|_=>none) Aj9.2 func187 (by
 rintro⟨(p:Sa_),_⟩ hp;refine ho (.cl Bv (p,()) λ(z2:List Int×PUnit)=>lpx (CF p) ([],((0:Int),(p,(z2.1,())))) λ(y2:List Sf_×Int×Sa_×List Int×PUnit) bk2=>.br (decide (y2.2.1<(y2.2.2.2.1.length:Int))) (.ob (inB y2.2.1 y2.2.2.2.1.length)<|.ob (y2.2.1.toNat<y2.2.2.2.1.length)<|.cl Aw (y2.2.2.1,y2.2.2.2.1.getD y2.2.1.toNat default,()) λz3=>.ob (True)<|.ob (Br (y2.1.length+[z3.1].length) 72)<|.ob (bk2 (y2.1++[z3.1],(w1 y2.2.1,(y2.2.2.1,(y2.2.2.2.1,())))))<|.ok) (.cl Cc (y2.2.2.1,()) λ(z4:List Int×PUnit)=>lpx (CL p) (y2.1,((0:Int),(y2.2.2.1,(z4.1,())))) λ(y10:List Sf_×Int×Sa_×List Int×PUnit) bk10=>.br (decide (y10.2.1<(y10.2.2.2.1.length:Int))) (.ob (inB y10.2.1 y10.2.2.2.1.length)<|.ob (y10.2.1.toNat<y10.2.2.2.1.length)<|.cl AE (y10.2.2.1,y10.2.2.2.1.getD y10.2.1.toNat default,()) λz5=>.ob (True)<|.ob (Br (y10.1.length+[z5.1].length) 72)<|.ob (Value.int IntKind.i64 y2.2.1=Value.int IntKind.i64 y2.2.1)<|.ob (bk10 (y10.1++[z5.1],(w1 y10.2.1,(y10.2.2.1,(y10.2.2.2.1,())))))<|.ok) (.lf Bu (y10.1,())))) ?_;refine Ae ?_ λ_=>(Ai ?_ λ(y2:List Sf_×Int×Sa_×List Int×PUnit) i2=>Ab (λh3=>Aa ?_ λ_=>Aa ?_ λ_=>Ae ?_ λ_=>(Aa trivial λ_=>Aa ?_ λ_=>Aa ?_ λ_=>trivial)) (λh3=>Ae ?_ λ_=>(Ai ?_ λ(y10:List Sf_×Int×Sa_×List Int×PUnit) i10=>Ab (λh11=>Aa ?_ λ_=>Aa ?_ λ_=>Ae ?_ λ_=>(Aa trivial λ_=>Aa ?_ λ_=>Aa rfl λ_=>Aa ?_ λ_=>trivial)) (λh11=>lfY ?_))))
 all_goals
  have hl1:(openSlots p).length<=p.bf.length:=D1 _ _ _;have hl2:(openMods p).length<=p.bh.length:=D1 _ _ _;try simp only[CF,CL,AE,Bu,Cc,Bv,Aw,std,Nat.reduceAdd] at *
 all_goals first|trivial|omega|exact⟨o_,o_,by simp,rfl⟩|skip
 all_goals (obtain⟨⟨⟨a1,a2,a3,a4⟩,e1⟩,e2⟩:=i2;simp only[e1,e2] at *)
 all_goals first|trivial|omega|skip
 all_goals try (obtain⟨⟨⟨b1,b2,b3,b4⟩,f1⟩,f2⟩:=i10;simp only[f1,f2] at *)
 all_goals first|trivial|omega|skip
 all_goals first|(have ho:=TU (p:=p) (i:=y10.2.1.toNat) o_)|(have ho:=T3 (p:=p) (i:=y2.2.1.toNat) o_)|skip
 all_goals first|exact⟨o_,o_,o_⟩|skip
 all_goals first|(rw[Ky (modRequest p) (l:=openMods p) (i:=y10.2.1.toNat) o_] at b4;rw[Qd3] at b4;exact b4)|(rw[N9 (modRequest p) (l:=openMods p) (i:=y10.2.1.toNat) o_] at b4;rw[Ag o_,show(y10.2.1+1).toNat=y10.2.1.toNat+1 from o_];exact⟨⟨⟨⟨o_,o_,by simp only[Qa4,Qa6,Qb7];omega,by rw[Qb4];exact b4⟩,by trivial⟩,by trivial⟩,o_⟩)|(rw[N9 (slotRequest p) (l:=openSlots p) (i:=y2.2.1.toNat) o_] at a4;rw[Ag o_,show(y2.2.1+1).toNat=y2.2.1.toNat+1 from o_];exact⟨⟨⟨⟨o_,o_,by simp only[Qa4,Qa6,Qb7];omega,by rw[Qb4];exact a4⟩,by trivial⟩,by trivial⟩,o_⟩)|(rw[Ky (slotRequest p) (l:=openSlots p) (i:=y2.2.1.toNat) o_] at a4;rw[Qd3] at a4;exact⟨o_,o_,o_,by rw[a4];rfl⟩)|skip)
abbrev CN (p:Sa_):LInv:=⟨[⟨.s,3,true,.sl .request⟩,⟨.s,12,true,.el .int⟩,⟨.b,1,false,.el .page⟩,⟨.s,10,true,.sl .int⟩],λ(z_ x_:(List Sf_)×Int×Sa_×(List Int)×Unit)=>((0<=x_.2.1/\x_.2.1<=(openSlots p).length/\x_.1.length<=x_.2.1/\x_.1++((openSlots p).drop x_.2.1.toNat).map (slotRequest p)=(openSlots p).map (slotRequest p))/\x_.2.2.1=z_.2.2.1)/\x_.2.2.2.1=z_.2.2.2.1,λ(x_:(List Sf_)×Int×Sa_×(List Int)×Unit)=>(openSlots p).length-x_.2.1.toNat⟩
abbrev CR (p:Sa_):LInv:=⟨[⟨.s,3,true,.sl .request⟩,⟨.s,26,true,.el .int⟩,⟨.b,1,false,.el .page⟩,⟨.s,24,true,.sl .int⟩],λ(z_ x_:(List Sf_)×Int×Sa_×(List Int)×Unit)=>((0<=x_.2.1/\x_.2.1<=(openMods p).length/\x_.1.length<=(openSlots p).length+x_.2.1/\x_.1++((openMods p).drop x_.2.1.toNat).map (modRequest p)=nextNeeds p)/\x_.2.2.1=z_.2.2.1)/\x_.2.2.2.1=z_.2.2.2.1,λ(x_:(List Sf_)×Int×Sa_×(List Int)×Unit)=>(openMods p).length-x_.2.1.toNat⟩
end Go.Proofs.YtglhphmnikpkfaaGreatDoor.fnExactLoadFast
