/-
  Contracts of functions that the law of FnActions reaches, part 4.
-/
import Derived.Test.YthpiiodbmkjmjaaGreatDoorVPActions3
namespace Go.Proofs.YthpiiodbmkjmjaaGreatDoor.fnActions
open Go.Proofs.YthpiiodbmkjmjaaGreatDoor
open Go.D Go.Proofs.Tryz
set_option maxRecDepth 100000
set_option maxHeartbeats 2000000
set_option linter.defProp false
set_option linter.unusedVariables false
set_option linter.unusedSimpArgs false
def Aka:=Akx.a CU<|Fct.o (KP [1,2,3,4,5,6,7] [26,34,51,59,78,93,112]) Akx.2 func149 (by
 rintro⟨(p:Sa_),_⟩ hp;refine ho (let q3_:=(⟨#[108,111,97,100]⟩:ByteArray);.cl AC (p,()) λz2=>let q0_:Out:=.lf CU (z2.1,false,());.cl EJ (p,()) λz3=>.br (!z3.1) q0_ (.br (p.loaded) q0_ (.br (decide (p.bm<0)) q0_ (.br (decide (p.bq<0)) q0_ (.cl DI (p,()) λ(z4:Ty40_)=>let q2_:=p.bf.getD (z4.1.getD p.bm.toNat default).toNat default;let q1_:=0<=z4.1.getD p.bm.toNat default/\z4.1.getD p.bm.toNat default<(p.bf.length:Int);.br (decide (p.bm<(z4.1.length:Int))) (.ix p.bm z4.1.length<|.ob q1_<|.br (!q2_.done) q0_ (.cl Bt (p,()) λz5=>.br (!z5.1) q0_ (.ob q1_<|.br (q2_.code==1) (.ob q1_<|.cl DO (p,q2_.body,false,()) λz6=>.lf CU ({z6.1 with bm:=w1 p.bm},true,())) (.lf CU ({z2.1 with bm:=w1 p.bm},true,()))))) (.br (decide (p.bq<(p.bg.length:Int))) (.ob (inB p.bq p.bg.length)<|.cl CW (p,p.bg.getD p.bq.toNat default,()) λz7=>.br (!z7.1) q0_ (.cl Bt (p,()) λz8=>.br (!z8.1) q0_ (.cl Vu (p,p.bg.getD p.bq.toNat default,()) λz9=>.lf CU ({z9.1 with bq:=w1 p.bq},true,())))) (.cl FA (p,()) λ(z10:Ty40_)=>.br (decide ((z10.1.length:Int)>0)) q0_ (.cl GZ (p,()) λ(z11:Ty40_)=>.br (decide ((z11.1.length:Int)>0)) q0_ (.ob (AbO.pre (z2.1,q3_,()))<|.lt _ (AbO.fn (z2.1,q3_,())) λz12=>.lf CU ({z12.1.1 with loaded:=true},true,())))))))))) ?_;refine Af ?_ λ_=>(Af trivial λ_=>(Aa (λh2=>lfY ?_) (λh2=>Aa (λh3=>lfY ?_) (λh3=>Aa (λh4=>lfY ?_) (λh4=>Aa (λh5=>lfY ?_) (λh5=>Af ?_ λ_=>(Aa (λh7=>Er ?_ λo8 o9=>Ac ?_ λ_=>Aa (λh11=>lfY ?_) (λh11=>Af ?_ λ_=>(Aa (λh13=>lfY ?_) (λh13=>Ac ?_ λ_=>Aa (λh15=>Ac ?_ λ_=>Af ?_ λ_=>(lfY ?_)) (λh15=>lfY ?_))))) (λh7=>Aa (λh18=>Ac ?_ λ_=>Af ?_ λ_=>(Aa (λh21=>lfY ?_) (λh21=>Af ?_ λ_=>(Aa (λh23=>lfY ?_) (λh23=>Af ?_ λ_=>(lfY ?_)))))) (λh18=>Af ?_ λ_=>(Aa (λh26=>lfY ?_) (λh26=>Af ?_ λ_=>(Aa (λh28=>lfY ?_) (λh28=>Ac trivial λ_=>DW (lfY ?_))))))))))))))
 all_goals have hq:okTail p:=hp
 all_goals obtain⟨⟨⟨hp1,hp2,hp3,hp4,hp9⟩,hp8,hp5⟩,hp6,hp10,hp7⟩:=(show okTail p from hp)
 all_goals
  have hbb:szBuilder p.ba<=2000000000:=by(unfold szBuilder;omega)
  have hpp:=EY p;have hsl:=Ab AV p.bf;have hml:=Ab AJ p.bh;have hel:=Ab szAddr p.bg;have hdl:(deferredSlots p).length<=p.bf.length:=Dt _ _ _;try simp only[Kk] at *
  try simp only[std,Nat.reduceAdd,NM,Qq] at *
 all_goals first|trivial|omega|skip
 all_goals
  have hds:0<=p.bm->p.bm<(deferredSlots p).length->(defSlot p).body.size<=4200000000:=λa b=>hp5 _ (by have:=J3 p a b;omega)
  have hes:0<=p.bq->p.bq<p.bg.length->okEnt p (entNow p):=λa b=>Qr hq o_
 all_goals first|exact J3 p ‹_› ‹_›|exact⟨hp1,o_,o_,hds ‹_› ‹_›,hp5⟩|exact hes ‹_› ‹_›|exact(hes ‹_› ‹_›).2.1|skip
 all_goals unfold stepTail
 all_goals repeat first|rw[Qa3 (by first|assumption|omega|exact .inl ‹_›|exact .inr ‹_›|exact .inr (.inl ‹_›)|exact .inr (.inr (.inl o_))|exact .inr (.inr (.inr o_))|exact .inl o_|exact .inr o_)]|rw[Qa5 (by first|omega|(rintro(q|q|q|q)<;>first|omega|exact tf ‹_› q|exact tf q ‹_›)|(rintro(q|q)<;>first|omega|exact tf ‹_› q))]|unfold tailDefer|unfold tailEnter
 all_goals first|exact⟨rfl,rfl⟩|(rw[Al o_];exact⟨rfl,rfl⟩))
def undS:List Sl_->Nat
 | []=>0
 | s::l=>(if s.done=true then 0 else 1)+undS l
def undM:List Sf_->Nat
 | []=>0
 | m::l=>(if m.done=true then 0 else 1)+undM l
def nrL (r:List Sb_):List Sf_->Nat
 | []=>0
 | m::l=>(if inL r m.to=true then 0 else szAddr m.to+1)+nrL r l
def Nj:∀ l k:List Sl_,undS (l++k)=undS l+undS k
 | [],k=>(Qe0 _).symm
 | s::l,k=>by rw[Qe5,undS,undS,Nj l k];omega
def Nt:∀ l k:List Sf_,undM (l++k)=undM l+undM k
 | [],k=>(Qe0 _).symm
 | s::l,k=>by rw[Qe5,undM,undM,Nt l k];omega
def Rf (r:List Sb_):∀ l k:List Sf_,nrL r (l++k)=nrL r l+nrL r k
 | [],k=>(Qe0 _).symm
 | s::l,k=>by rw[Qe5,nrL,nrL,Rf r l k];omega
def Wi (r:List Sb_) (b:Sb_):∀ l:List Sf_,nrL (r++[b]) l<=nrL r l
 | []=>Qa9 _
 | m::l=>by
  have:=Wi r b l;rw[nrL,nrL,KA];cases inL r m.to with
  | true=>rw[Bool.true_or,Qa3 rfl];omega
  | false=>
   rw[Bool.false_or,Qa5 (show ¬ false=true by decide)];split<;>omega
def VC (r:List Sb_) (b:Sb_) (hb:inL r b=false):∀ (l:List Sf_) (i:Nat),i<l.length->(l.getD i default).to=b->nrL (r++[b]) l+szAddr b+1<=nrL r l
 | [],i,h,_=>absurd h (Nat.not_lt_zero _)
 | m::l,0,_,he=>by
  have he:m.to=b:=he;have:=Wi r b l;rw[nrL,nrL,he,KA,hb,UT,Qf4 rfl,Bool.false_or,Qa3 rfl,Qa5 (by decide)];omega
 | m::l,i+1,h,he=>by
  have ih:=VC r b hb l i (by simpa using h) he;rw[nrL,nrL,KA];cases inL r m.to with
  | true=>rw[Bool.true_or,Qa3 rfl];omega
  | false=>
   rw[Bool.false_or,Qa5 (show ¬ false=true by decide)];split<;>omega
def nodeP (b:Se_):Nat:=szL AK b.bi+4000010*(40-b.bi.length)
def openP (b:Se_):Nat:=b.bl.length+(40-b.bi.length)
def slotP (l:List Sl_):Nat:=szL AV l+400*undS l+500000800*(20-l.length)
def entP (l:List Sb_):Nat:=szL szAddr l+100*(20-l.length)
def modP (l:List Sf_) (n:Nat):Nat:=szL AJ l+500*undM l+600*(20-n)
def logP (l:List ByteArray):Nat:=szL Ae l+200*(40-l.length)
def ranP (l:List Sf_) (r:List Sb_) (n:Nat):Nat:=szL szAddr r+nrL r l+100*(20-n)
def okQ (q:List Si_) (Q:Nat):Prop:=(∀ t,t∈q->szToken t<=4000000)/\szL szToken q<=Q
def okB (b:Se_):Prop:=nodeP b<=200000000/\openP b<=3000000
def okS (l:List Sl_):Prop:=slotP l<=13000000000/\∀ s,s∈l->s.body.size<=2000000
def okE (l:List Sf_) (e r:List Sb_) (M R:Nat):Prop:=entP e<=3000000/\modP l e.length<=M/\ranP l r e.length<=R/\∀ m,m∈l->m.body.size<=2000000
def okLg (g:List ByteArray):Prop:=logP g<=3000000
def okCm (p:Sa_):Prop:=AM p.bj+szAddr p.addr<=4000000/\p.tok.rest.size<=4000000
def okAll (p:Sa_) (Q M R:Nat):Prop:=okQ p.bn Q/\okB p.ba/\okS p.bf/\okE p.bh p.bg p.ran M R/\okLg p.log/\okCm p
def QE {q:List Si_} {Q Q':Nat} (h:okQ q Q) (hq:Q<=Q'):okQ q Q':=⟨h.1,Qd1 h.2 hq⟩
def Gy {p:Sa_} {Q Q' M R:Nat} (h:okAll p Q M R) (hq:Q<=Q'):okAll p Q' M R:=⟨QE h.1 hq,h.2⟩
def AeV {b:Se_} {t:Si_} (h:okB b) (ht:szToken t<=4000000):okB (addToken b t).1:=by
 obtain⟨h1,h2⟩:=h;unfold addToken;split
 ·have:=Me b t.name _ (Qa9 _);refine⟨h1,?_⟩;unfold openP at *
  show(closeN b t.name b.bl.length).length+(40-b.bi.length)<=_;omega
 ·split
  ·rename_i hc;have hc:=hc.1;have h0:szL AK []=0:=rfl;have h3:szL B9 []=0:=rfl;have h4:ByteArray.size ⟨#[]⟩=0:=rfl;split
   ·refine⟨?_,?_⟩
    ·unfold nodeP at *
     dsimp only;rw[CE,Ah,h0,Qa1,Qd5];simp only[AK,szToken,h4] at *;omega
    ·unfold openP at *
     dsimp only;rw[Qa1,Qd5];split
     ·omega
     ·rw[Qa1,Qd5];omega
   ·refine⟨?_,?_⟩
    ·unfold nodeP at *
     dsimp only;rw[CE,Ah,h0,Qa1,Qd5];simp only[AK,szToken,h4,h3] at *;omega
    ·unfold openP at *
     dsimp only;rw[Qa1,Qd5];omega
  ·exact⟨h1,h2⟩
def Wa {b:Se_} (l:List So_) (x:Sr_) (h:okB b):okB (runLine b l x).1:=by
 unfold runLine;split
 ·exact h
 ·split
  ·dsimp only;split
   ·rename_i hc;obtain⟨c1,c2,c3⟩:=hc;obtain⟨h1,h2⟩:=h;have:=BL c3;have h0:szL AK []=0:=rfl;have h3:szL B9 []=0:=rfl;have h4:ByteArray.size ⟨#[]⟩=0:=rfl;refine⟨?_,?_⟩
    ·unfold nodeP at *
     dsimp only;rw[CE,Ah,h0,Qa1,Qd5];simp only[AK,h4,h3] at *;omega
    ·unfold openP at *
     dsimp only;rw[Qa1,Qd5];omega
   ·exact h
  ·split
   ·exact h
   ·split
    ·exact h
    ·split<;>exact h
def NQ (l:List So_):∀ (r:List Sr_) (b:Se_) (w:ByteArray) (g:List ByteArray),okB b->okB (runLines l r b w g).1
 | [],b,w,g,h=>h
 | x::r,b,w,g,h=>by rw[runLines];exact NQ l r _ _ _ (Wa l x h)
def Acg {b:Se_} {l:List So_} {x:Sr_} (hl:okSheets l) (hb:b.bi.length<=9000000000000000000) (hx:x.text.size<=60):(runLine b l x).2.2.size<=199:=by
 have h0:ByteArray.size ⟨#[]⟩=0:=rfl;have hc:=M1 x.text b.bi;have hk:=Qd hl x.text;have f1:=NE (n:=countName x.text b.bi) o_ o_;have f2:=NE (n:=colorOf l x.text) hk.1 hk.2;have s1:ByteArray.size ⟨#[99,111,117,110,116,32]⟩=6:=rfl;have s2:ByteArray.size ⟨#[32]⟩=1:=rfl;have s3:ByteArray.size ⟨#[108,111,111,107,32]⟩=5:=rfl;have s4:ByteArray.size ⟨#[115,97,121,32]⟩=4:=rfl;unfold runLine;split
 ·dsimp only;omega
 ·split
  ·dsimp only;omega
  ·split
   ·dsimp only;rw[Qa6,Qa6,Qa6];omega
   ·split
    ·dsimp only;rw[Qa6,Qa6,Qa6];omega
    ·split
     ·dsimp only;rw[Qa6];omega
     ·dsimp only;omega
def N4 (l:List So_) (hl:okSheets l):∀ (r:List Sr_) (b:Se_) (w:ByteArray) (g:List ByteArray),okB b->(∀ x,x∈r->x.text.size<=60)->(∀ s,s∈g->s.size<=199)->∀ s,s∈(runLines l r b w g).2.2->s.size<=199
 | [],b,w,g,_,_,hg=>hg
 | x::r,b,w,g,hb,hr,hg=>by
  rw[runLines];have hn:b.bi.length<=9000000000000000000:=by have:=Ab AK b.bi;have h1:=hb.1;unfold nodeP at h1;omega
  have hx:=Acg hl hn (hr x Qd3);refine N4 l hl r _ _ _ (Wa l x hb) (λy hy=>hr y (Qc3 _ hy)) λs hs=>?_
  split at hs
  ·exact hg s hs
  ·rcases Qb8.1 hs with hs|hs
   ·exact hg s hs
   ·rw[List.mem_singleton] at hs;rw[hs];exact hx
def O1:∀ (l g:List ByteArray),(∀ s,s∈l->s.size<=199)->okLg g->okLg (addLog g l)
 | [],g,_,h=>by rw[Ii];exact h
 | x::l,g,hl,h=>by
  rw[addLog];split
  ·refine O1 l _ (λs hs=>hl s (Qc3 _ hs)) ?_;have:=hl x Qd3;have h0:szL Ae []=0:=rfl;unfold okLg logP at *
   rw[CE,Ah,h0,Qa1,Qd5];simp only[Ae] at *;omega
  ·exact h
def Z3 {p:Sa_} {Q M R:Nat} (h:okAll p Q M R) {s:ByteArray} (hs:s.size<=199):okAll (say p s) Q M R:=by
 obtain⟨h1,h2,h3,h4,h5,h6⟩:=h;have e:=O1 [s] p.log (λx hx=>by rw[List.mem_singleton] at hx;rw[hx];exact hs) h5;unfold say;split
 ·rename_i hc;rw[addLog,Qa3 hc,Ii] at e;exact⟨h1,h2,h3,h4,e,h6⟩
 ·exact⟨h1,h2,h3,h4,h5,h6⟩
def PF (s:ByteArray):∀ x,x∈(parseScript s).1->x.text.size<=60:=by
 intro x hx;unfold parseScript at hx;split at hx
 ·cases hx
 ·split at hx
  ·rename_i hc;obtain⟨w,hw,rfl⟩:=Qg1.1 hx;have:=hc.2;rw[allOk8,Qc0] at this;exact O4 w _ _ (this w hw)
  ·cases hx
def ZT {p:Sa_} {Q M R:Nat} (h:okAll p Q M R) (c:ByteArray) (w:Bool):okAll (runCode p c w) (Q+370) M R:=by
 obtain⟨h1,h2,h3,h4,h5,h6⟩:=h;unfold runCode;split
 ·refine⟨?_,NQ _ _ _ _ _ h2,h3,h4,O1 _ _ (N4 _ (Gt _).2 _ _ _ _ h2 (PF c) λs hs=>by cases hs) h5,h6⟩;dsimp only;split
  ·have ht:=I6 (rsOf p c).2.1;have hr:=(ZB p c).2.1;refine⟨λt ht2=>?_,?_⟩
   ·rcases Qb8.1 ht2 with q|q
    ·have hg:=JB szToken q;omega
    ·exact h1.1 t q
   ·rw[CE];have:=h1.2;omega
  ·exact QE h1 o_
 ·exact⟨QE h1 o_,h2,h3,h4,O1 _ _ (λs hs=>by rw[List.mem_singleton] at hs;rw[hs];decide) h5,h6⟩
def Hh (s b:ByteArray):szAddr (parseAddr s b).1<=16:=by
 unfold parseAddr;split
 ·rename_i h;rw[Qa2] at h;have h1:=BL h.1;have h2:=BL h.2;simp only[szAddr];omega
 ·decide
def W6 (p:Sa_) (m:Int) (to d:ByteArray) (n:Int):AV (newSlot p m to d n)<=16+d.size/\(newSlot p m to d n).body.size=0:=by
 have h:=Hh to p.addr.host;have h4:ByteArray.size ⟨#[]⟩=0:=rfl;unfold newSlot;split
 ·exact⟨by simp only[rawSlot,AV,h4];omega,h4⟩
 ·exact⟨by simp only[AV,h4];omega,h4⟩
def QH {p:Sa_} {Q M R:Nat} (h:okAll p Q M R) (m:Int) (to d:ByteArray) (n:Int) (hd:d.size<=200000000):okAll (addSlot p m to d n).1 Q M R:=by
 obtain⟨h1,h2,h3,h4,h5,h6⟩:=h;unfold addSlot;split
 ·rename_i hc;have hn:=W6 p m to d n;refine⟨h1,h2,⟨?_,λs hs=>?_⟩,h4,h5,h6⟩
  ·have h0:szL AV []=0:=rfl;have hu:undS [newSlot p m to d n]<=1:=by rw[undS,undS];split<;>omega
   have h7:=h3.1;unfold slotP at *
   dsimp only;rw[CE,Ah,h0,Nj,Qa1,Qd5];omega
  ·rcases Qb8.1 hs with hs|hs
   ·exact h3.2 s hs
   ·rw[List.mem_singleton] at hs;rw[hs,hn.2];decide
 ·exact⟨h1,h2,h3,h4,h5,h6⟩
def Aa8 (p:Sa_) (a:Sb_):(newMod p a).to=a/\(newMod p a).body.size=0:=by
 unfold newMod;split<;>exact⟨rfl,rfl⟩
def Abk {α:Type} (f:α->Nat) (l:List α) (i:Nat):szL f (l.take i)+szL f (l.drop i)=szL f l:=by
 rw[<-CE,Qd9]
def AbC (l:List Sf_) (i:Nat):undM (l.take i)+undM (l.drop i)=undM l:=by rw[<-Nt,Qd9]
def Ad0 (r:List Sb_) (l:List Sf_) (i:Nat):nrL r (l.take i)+nrL r (l.drop i)=nrL r l:=by rw[<-Rf,Qd9]
def Aee (p:Sa_) (a:Sb_):szL AJ (askModule p a).bh<=szL AJ p.bh+szAddr a+1/\undM (askModule p a).bh<=undM p.bh+1/\nrL p.ran (askModule p a).bh<=nrL p.ran p.bh+szAddr a+1/\(∀ m,m∈(askModule p a).bh->m∈p.bh\/m.body.size=0)/\askModule p a={ p with bh:=(askModule p a).bh }:=by
 unfold askModule;split
 ·exact⟨o_,o_,o_,λm h=>.inl h,rfl⟩
 ·obtain⟨n1,n2⟩:=Aa8 p a;have e1:=Abk AJ p.bh (askFrom a p.bh);have e2:=AbC p.bh (askFrom a p.bh);have e3:=Ad0 p.ran p.bh (askFrom a p.bh);refine⟨?_,?_,?_,λm h=>?_,rfl⟩
  ·dsimp only;rw[CE,Ah];simp only[AJ,n1,n2] at *;omega
  ·dsimp only;rw[Nt,undM];split<;>omega
  ·dsimp only;rw[Rf,nrL,n1];split<;>omega
  ·rcases Qb8.1 h with h|h
   ·exact .inl (List.mem_of_mem_take h)
   ·rcases Qd2.1 h with h|h
    ·rw[h];exact .inr n2
    ·exact .inl (List.mem_of_mem_drop h)
def Ack {p:Sa_} {Q M R:Nat} (h:okAll p Q M R) (to:ByteArray):okAll (addEntry p to) Q M R:=by
 unfold addEntry;split
 ·rename_i hc;obtain⟨h1,h2,h3,⟨h4,h7,h8,h9⟩,h5,h6⟩:=h;obtain⟨a1,a2,a3,a4,a5⟩:=Aee p (parseAddr to p.addr.host).1;have ha:=Hh to p.addr.host;have h0:szL szAddr []=0:=rfl;rw[a5];refine⟨h1,h2,h3,⟨?_,?_,?_,λm hm=>?_⟩,h5,h6⟩
  ·unfold entP at *
   rw[CE,Ah,h0,Qa1,Qd5];omega
  ·unfold modP at *
   dsimp only;rw[Qa1,Qd5];omega
  ·unfold ranP at *
   dsimp only;rw[Qa1,Qd5];omega
  ·rcases a4 m hm with hm|hm
   ·exact h9 m hm
   ·omega
 ·exact h
def X5 {p:Sa_} {Q M R:Nat} (h:okAll p Q M R) (t:Si_) (n:Int) (ht:szToken t<=4000000):okAll (element p t n) Q M R:=by
 have hd:=AZ t.bo ⟨#[100,105,103,101,115,116]⟩;have hs:szL B9 t.bo<=szToken t:=by simp only[szToken];omega
 unfold element;split
 ·exact QH h _ _ _ _ o_
 ·split
  ·exact QH h _ _ _ _ o_
  ·exact h
def Abn {p:Sa_} {Q M R:Nat} (h:okAll p Q M R) (n:Int):okAll (script p n) Q M R:=by
 have hd:=AZ (p.ba.bi.getD n.toNat default).bo ⟨#[100,105,103,101,115,116]⟩;have hs:szL B9 (p.ba.bi.getD n.toNat default).bo<=200000000:=by
  by_cases hn:n.toNat<p.ba.bi.length
  ·have:=Mm p.ba.bi n.toNat hn;have h2:=h.2.1.1;unfold nodeP at h2;omega
  ·rw[Qb0,List.getElem?_eq_none o_];exact Nat.zero_le _
 unfold script;split
 ·split
  ·exact h
  ·exact h
 ·split
  ·exact QH h _ _ _ _ o_
  ·split
   ·exact Ack h _
   ·exact QH h _ _ _ _ o_
def Acb {p:Sa_} {Q M R:Nat} (h:okAll p Q M R) (hq:0<p.bn.length):okAll (taken p (p.bn.getD 0 default)) Q M R:=by
 obtain⟨h1,h2,h3,h4,h5,h6⟩:=h;have ht:=h1.1 _ (AN hq);have hz:=(Q5 p hq).2;exact⟨⟨λt hm=>h1.1 t (List.mem_of_mem_drop hm),by have:=h1.2;show szL szToken (p.bn.drop 1)<=Q;omega⟩,AeV h2 ht,h3,h4,h5,h6⟩
def Afu {p:Sa_} {Q M R:Nat} (h:okAll p Q M R):okAll (takeToken p).1 Q M R:=by
 unfold takeToken;split
 ·exact h
 ·rename_i hc;have hq:0<p.bn.length:=o_
  have ht:=h.1.1 _ (AN hq);have hk:=Acb h hq;unfold takeTok;split
  ·exact X5 hk _ _ ht
  ·split
   ·exact Abn hk _
   ·exact hk
def Abl {p:Sa_} {Q M R:Nat} (h:okAll p Q M R):okAll (stepParser p).1 (Q+370) M R:=by
 have hm:=Gy h (Qc6 Q 370);unfold stepParser;split
 ·unfold stepInline;split
  ·exact ZT h _ _
  ·exact hm
 ·split
  ·unfold stepBlock;split
   ·exact hm
   ·split
    ·exact hm
    ·split
     ·exact ZT h _ _
     ·exact hm
  ·exact Afu hm
def ZO (b:ByteArray):∀ (l:List ByteArray) (acc:List Sb_),∀ x,x∈(pmGo b l acc).2.1->x.text.size<=60
 | [],acc,x,h=>by cases h
 | w::l,acc,x,h=>by
  rw[pmGo] at h;split at h
  ·split at h
   ·exact ZO b l _ x h
   ·cases h
  ·split at h
   ·exact PF _ x h
   ·cases h
def AaK {p q:Sa_} {Q M R:Nat} (h:okAll q Q M R) (he:q.bh=p.bh) (b:Sb_) (hb:0<=findMod p.bh b):okAll (enter1 p q b) Q M R/\(enter1 p q b).bh=p.bh:=by
 unfold enter1;split
 ·exact⟨h,he⟩
 ·rename_i hn;have hn:inL q.ran b=false:=by simpa using hn
  obtain⟨h1,h2,h3,⟨h4,h7,h8,h9⟩,h5,h6⟩:=h;have hf:=BW p.bh b;have hd:=VC q.ran b hn p.bh _ (show(findMod p.bh b).toNat<p.bh.length from o_) (Kz hb);have h0:szL szAddr []=0:=rfl;refine⟨⟨h1,NQ _ _ _ _ _ h2,h3,⟨h4,h7,?_,h9⟩,O1 _ _ (N4 _ (Gt _).2 _ _ _ _ h2 (ZO _ _ _) λs hs=>by cases hs) h5,h6⟩,he⟩;unfold ranP at *
  dsimp only;rw[he] at h8 ⊢;rw[CE,Ah,h0];omega
def NU {p:Sa_} {Q M R:Nat}:∀ (l:List Sb_) (q:Sa_),okAll q Q M R->q.bh=p.bh->(∀ b,b∈l->0<=findMod p.bh b)->okAll (enterAll p q l) Q M R
 | [],q,h,_,_=>h
 | b::l,q,h,he,hb=>by obtain⟨i1,i2⟩:=AaK h he b (hb b Qd3);exact NU l _ i1 i2 λx hx=>hb x (Qc3 _ hx)
def U5 (a:Sb_):(formatAddr a).size<=17:=by
 unfold formatAddr;split
 ·rename_i h;rw[Qa2] at h;have h1:=BL h.1;have h2:=BL h.2;rw[Qa6,Qa6,show ByteArray.size ⟨#[47]⟩=1 from rfl];omega
 ·exact Nat.zero_le _
def Ady {p:Sa_} {Q M R:Nat} (h:okAll p Q M R) (a:Sb_):okAll (enter p a) Q M R:=by
 unfold enter;split
 ·refine Z3 h ?_;have:=U5 a;rw[Qa6,show ByteArray.size ⟨#[102,97,105,108,32]⟩=5 from rfl];omega
 ·rename_i hf;exact NU _ _ h rfl λb hb=>MM (by simpa using hf) hb
def Afk {p:Sa_} {Q M R:Nat} (h:okAll p Q M R):okAll (stepTail p).1 (Q+370) M R:=by
 have hm:=Gy h (Qc6 Q 370);unfold stepTail;split
 ·exact hm
 ·split
  ·unfold tailDefer;split
   ·exact hm
   ·split
    ·exact ZT h _ _
    ·exact hm
  ·split
   ·unfold tailEnter;split
    ·exact hm
    ·exact Ady hm _
   ·split
    ·exact hm
    ·exact Z3 hm (by decide)
def P4 {p:Sa_} {Q M R:Nat} (h:okAll p Q M R) (hQ:Q<=900000000000) (hM:M<=50000000000) (hR:R<=20000000000):okTail p:=by
 obtain⟨⟨a1,a2⟩,⟨b1,b2⟩,⟨c1,c2⟩,⟨d1,d2,d3,d4⟩,e1,f1⟩:=h;have hg:logP p.log<=3000000:=e1;have hc:AM p.bj+szAddr p.addr+p.tok.rest.size<=9000000:=by(unfold okCm at f1;omega)
 unfold nodeP at b1;unfold openP at b2;unfold slotP at c1;unfold entP at d1;unfold modP at d2;unfold ranP at d3;unfold logP at hg;have hn:=Ab AK p.ba.bi;have hb:szBuilder p.ba=szL AK p.ba.bi+p.ba.bl.length:=rfl;have hh:p.addr.host.size<=szAddr p.addr:=by simp only[szAddr];omega
 refine⟨⟨⟨?_,o_,λi hi=>?_,o_,o_⟩,o_,λi hi=>?_⟩,λi hi=>?_,o_,λi hi=>?_⟩
 ·simp only[Ag,GC];omega
 ·have:=a1 _ (AN hi);omega
 ·have:=c2 _ (AN hi);omega
 ·have:=d4 _ (AN hi);omega
 ·have:=C6 szAddr hi;have h3:(p.bg.getD i default).host.size<=szAddr (p.bg.getD i default):=by simp only[szAddr];omega
  omega
def step1 (p:Sa_):Sa_×Bool:=if(stepParser p).2=true then stepParser p else stepTail p
def adv:Nat->Sa_->Sa_
 | 0,p=>p
 | n+1,p=>if(step1 p).2=true then adv n (step1 p).1 else p
def advance (p:Sa_):Sa_:=adv 2000 p
def Rz {p:Sa_} (h:(stepParser p).2=true):step1 p=stepParser p:=by unfold step1;rw[Qa3 h]
def Mj {p:Sa_} (h:(stepParser p).2=false):step1 p=stepTail p:=by unfold step1;rw[Qa5 (by rw[h];decide)]
def Vv {p:Sa_} {Q M R:Nat} (h:okAll p Q M R):okAll (step1 p).1 (Q+370) M R:=by
 unfold step1;split
 ·exact Abl h
 ·exact Afk h
def Aes {M R:Nat}:∀ (n:Nat) (p:Sa_) (Q:Nat),okAll p Q M R->okAll (adv n p) (Q+370*n) M R
 | 0,p,Q,h=>h
 | n+1,p,Q,h=>by
  rw[adv];split
  ·have:=Aes n _ _ (Vv h);rw[show Q+370+370*n=Q+370*(n+1) from o_] at this;exact this
  ·exact Gy h o_
def P2 {p:Sa_} {Q M R:Nat} (h:okAll p Q M R):okAll (advance p) (Q+740000) M R:=Aes 2000 p Q h
def okAdv (p:Sa_):Prop:=∃ Q M R,okAll p Q M R/\Q<=899000000000/\M<=50000000000/\R<=20000000000
def advInv (p q:Sa_) (i:Int):Prop:=0<=i/\i<=2000/\adv (2000-i.toNat) q=advance p/\∃ Q M R,okAll q (Q+370*i.toNat) M R/\Q<=899000000000/\M<=50000000000/\R<=20000000000
def J1 {p:Sa_} (h:okAdv p):advInv p p 0:=by
 obtain⟨Q,M,R,h1,h2⟩:=h;exact⟨o_,o_,rfl,Q,M,R,h1,h2⟩
def IQ {p q:Sa_} {i:Int} (h:advInv p q i):okTail q:=by
 obtain⟨h1,h2,_,Q,M,R,h3,h4,h5,h6⟩:=h;exact P4 h3 o_ h5 h6
def Lq {p q:Sa_} {i:Int} (h:advInv p q i) (hi:i<2000) (hs:(step1 q).2=true):advInv p (step1 q).1 (i+1):=by
 obtain⟨h1,h2,h0,Q,M,R,h3,h4⟩:=h;rw[show 2000-i.toNat=(2000-(i+1).toNat)+1 from o_,adv,Qa3 hs] at h0;refine⟨o_,o_,h0,Q,M,R,?_,h4⟩;have:=Vv h3;rw[show Q+370*i.toNat+370=Q+370*(i+1).toNat from o_] at this;exact this
def IV {p q:Sa_} {i:Int} (h:advInv p q i) (hs:i<2000->(step1 q).2=false):q=advance p:=by
 obtain⟨h1,h2,h0,_⟩:=h;rcases Nat.eq_zero_or_pos (2000-i.toNat) with hz|hz
 ·rw[hz] at h0;exact h0
 ·obtain⟨n,hn⟩:∃ n,2000-i.toNat=n+1:=⟨2000-i.toNat-1,o_⟩;rw[hn,adv,Qa5 (by rw[hs o_];decide)] at h0;exact h0
abbrev Em:Fct:=⟨[.v (.el .page)],[.el .page],λ(x_:Ty13_)=>okAdv x_.1,λ(x_:Ty13_)=>(advance x_.1,())⟩
abbrev ET (p:Sa_):LInv:=⟨[⟨.b,3,true,.el .page⟩,⟨.s,4,true,.el .int⟩,⟨.b,2,true,.el .page⟩],λ(z_ x_:Ty126_)=>(advInv p x_.1 x_.2.1)/\x_.2.2.1=z_.2.2.1,λ(x_:Ty126_)=>(2000-x_.2.1).toNat⟩
def AlD:=Aka.a Em<|Fct.p (KP [1,2,3,4,5,6] [10,19,26]) (λ⟨p,_⟩=>lv [(3,ET p)]) Aka.2 func63 (by
 rintro⟨(p:Sa_),_⟩ hp;refine ho (.cl AC (p,()) λz2=>lpx (ET p) (z2.1,((0:Int),(default,()))) λ(y2:Ty126_) bk2=>.br (decide (y2.2.1<2000)) (.cl BE (y2.1,()) λz3=>.br (!z3.2.1) (.cl CU (y2.1,()) λz4=>.br (!z4.2.1) (.lf Em (y2.1,())) (.bk (bk2 (z4.1,(w1 y2.2.1,(y2.2.2.1,())))))) (.br (!z3.2.1) (.lf Em (y2.1,())) (.bk (bk2 (z3.1,(w1 y2.2.1,(y2.2.2.1,()))))))) (.lf Em (y2.1,()))) ?_;refine Af ?_ λ_=>(Au ?_ λ(y2:Ty126_) i2=>Aa (λh3=>Af ?_ λ_=>(Aa (λh5=>Af ?_ λ_=>(Aa (λh7=>lfY ?_) (λh7=>A8 ?_))) (λh5=>Aa (λh9=>lfY ?_) (λh9=>A8 ?_)))) (λh3=>lfY ?_))
 all_goals
  have hq:okAdv p:=hp;have h0:=(IQ (J1 hq)).1.1.1;try simp only[std,Nat.reduceAdd] at *
 all_goals first|trivial|omega|skip
 all_goals first|exact J1 hq|exact⟨J1 hq,rfl⟩|(obtain⟨i3,e1⟩:=i2;have ht:=IQ i3)
 all_goals first|exact ht|exact ht.1|exact(tf ‹_› ‹_›).elim|skip
 all_goals first|exact IV i3 (λh=>absurd h o_)|exact IV i3 (λ_=>by rw[Mj ‹_›];assumption)|skip
 all_goals rw[Al (by have:=i3.1;omega)]
 all_goals first|(have e:=Lq i3 ‹_› (by rw[Mj ‹_›];assumption);rw[Mj ‹_›] at e;exact⟨⟨e,e1⟩,o_⟩)|(have e:=Lq i3 ‹_› (by rw[Rz ‹_›];assumption);rw[Rz ‹_›] at e;exact⟨⟨e,e1⟩,o_⟩))
def arrPage (l:Sd_):Sa_:=if l.parts.length=1 then endPage (arriveText l.page (l.parts.getD 0 default)) else arriveText l.page (l.parts.getD 0 default)
def arrivePart (l:Sd_):Sd_×Bool:=if l.parts.length=0 then(l,false) else({ l with parts:=l.parts.drop 1,page:=advance (arrPage l)},true)
def Aej:∀ l:List Sl_,undS l<=l.length
 | []=>Qa9 _
 | s::l=>by have:=Aej l;rw[undS,Qa7];split<;>omega
def AbA:∀ l:List Sf_,undM l<=l.length
 | []=>Qa9 _
 | s::l=>by have:=AbA l;rw[undM,Qa7];split<;>omega
def Ad5 (r:List Sb_):∀ l:List Sf_,nrL r l<=szL AJ l
 | []=>Qa9 _
 | s::l=>by have:=Ad5 r l;rw[nrL,Ah];split<;>simp only[AJ]<;>omega
def U9 {p:Sa_} (h:Ag p<=2000000):okAll p 2000000 1100000000 10000000:=by
 have h1:=Ab AV p.bf;have h2:=Ab AJ p.bh;have h3:=Aej p.bf;have h4:=AbA p.bh;have h5:=Ad5 p.ran p.bh;have h6:=Ab AK p.ba.bi;simp only[Ag,GC,szBuilder] at h;refine⟨⟨λt ht=>?_,o_⟩,⟨?_,?_⟩,⟨?_,λs hs=>?_⟩,⟨?_,?_,?_,λm hm=>?_⟩,?_,?_⟩
 ·have:=JB szToken ht;omega
 ·unfold nodeP;omega
 ·unfold openP;omega
 ·unfold slotP;omega
 ·have:=JB AV hs;simp only[AV] at this;omega
 ·unfold entP;omega
 ·unfold modP;omega
 ·unfold ranP;omega
 ·have:=JB AJ hm;simp only[AJ] at this;omega
 ·unfold okLg logP;omega
 ·unfold okCm;omega
def ZM {p:Sa_} {Q M R:Nat} {s:ByteArray} (h:okAll p Q M R) (hs:p.tok.rest.size+s.size<=3000000):okAll (arriveText p s) (Q+3000001) M R/\(arriveText p s).tok.rest.size<=p.tok.rest.size+s.size+1:=by
 unfold arriveText;split
 ·exact⟨Gy h o_,o_⟩
 ·obtain⟨h1,h2,h3,h4,h5,h6⟩:=h;have hz:=MA (p.tok.rest++s);rw[Qa6] at hz;refine⟨⟨⟨λt ht=>?_,?_⟩,h2,h3,h4,h5,?_⟩,?_⟩
  ·rcases Qb8.1 ht with q|q
   ·exact h1.1 t q
   ·have:=JB szToken q;omega
  ·dsimp only;rw[CE];have:=h1.2;omega
  ·unfold okCm at *;dsimp only;omega
  ·dsimp only;omega
def AhI {p:Sa_} {Q M R:Nat} (h:okAll p Q M R) (hs:p.tok.rest.size<=3000010):okAll (endPage p) (Q+3000020) M R/\(endPage p).tok.rest.size<=p.tok.rest.size:=by
 unfold endPage;split
 ·exact⟨Gy h o_,Qa9 _⟩
 ·obtain⟨h1,h2,h3,h4,h5,h6⟩:=h;have hz:=Qn p.tok.rest;have h0:(default:Sq_).rest.size=0:=rfl;refine⟨⟨⟨λt ht=>?_,?_⟩,h2,h3,h4,h5,?_⟩,?_⟩
  ·rcases Qb8.1 ht with q|q
   ·exact h1.1 t q
   ·have:=JB szToken q;omega
  ·dsimp only;rw[CE];have:=h1.2;omega
  ·unfold okCm at *;dsimp only;omega
  ·dsimp only;omega
def Aeg {l:Sd_} {Q M R:Nat} (h:okAll l.page Q M R) (hs:l.page.tok.rest.size+(l.parts.getD 0 default).size<=3000000):okAll (arriveText l.page (l.parts.getD 0 default)) (Q+3000001) M R/\okAll (arrPage l) (Q+6000021) M R/\(arrPage l).tok.rest.size<=l.page.tok.rest.size+(l.parts.getD 0 default).size+1:=by
 have h1:=ZM h hs;unfold arrPage;split
 ·have h2:=AhI h1.1 o_;exact⟨h1.1,Gy h2.1 o_,o_⟩
 ·exact⟨h1.1,Gy h1.1 o_,h1.2⟩
def J2 {p:Sa_} {Q M R:Nat} (h:okAll p Q M R) (hQ:Q<=900000000000) (hM:M<=50000000000) (hR:R<=20000000000):Ag p<=1000000000000:=(P4 h hQ hM hR).1.1.1
def okLd (l:Sd_):Prop:=∃ Q M R,okAll l.page Q M R/\Q<=890000000000/\M<=50000000000/\R<=20000000000
def okArr (l:Sd_):Prop:=(szNet l.net<=68719476736/\l.conns.length<=1048576/\l.guesses.length<=4194304)/\l.page.tok.rest.size+szL Ae l.parts<=2900000/\okLd l
def WD {l:Sd_} (h:okArr l) (hl:l.parts.length≠0):Ag l.page<=1000000000000/\l.page.tok.rest.size<=10000000/\(l.parts.getD 0 default).size<=10000000/\Ag (arriveText l.page (l.parts.getD 0 default))<=1000000000000/\okAdv (arrPage l):=by
 obtain⟨h1,h2,Q,M,R,h3,h4,h5,h6⟩:=h;have hg:=C6 Ae (l:=l.parts) (i:=0) o_;simp only[Ae] at hg;obtain⟨a1,a2,a3⟩:=Aeg h3 o_;exact⟨J2 h3 o_ h5 h6,o_,o_,J2 a1 o_ h5 h6,Q+6000021,M,R,a2,o_,h5,h6⟩
def NJ {l:Sd_} (h:l.parts.length≠0):arrivePart l=({ l with parts:=l.parts.drop 1,page:=advance (arrPage l)},true):=by unfold arrivePart;rw[Qa5 h]
def Y2 {l:Sd_} (h:l.parts.length=0):arrivePart l=(l,false):=by unfold arrivePart;rw[Qa3 h]
def QN {l:Sd_} (h:l.parts.length=1):arrPage l=endPage (arriveText l.page (l.parts.getD 0 default)):=by unfold arrPage;rw[Qa3 h]
def QS {l:Sd_} (h:l.parts.length≠1):arrPage l=arriveText l.page (l.parts.getD 0 default):=by unfold arrPage;rw[Qa5 h]
def Lj {α:Type} {l:List α}:cut l 1 (l.length-1)=l.drop 1:=by
 unfold cut;rw[Qb9 (by simp)]
abbrev CC:Fct:=⟨[.v (.el .loader)],[.el .loader,.el .bool],λ(x_:Ty90_)=>okArr x_.1,λ(x_:Ty90_)=>((arrivePart x_.1).1,(arrivePart x_.1).2,())⟩
def Aj1:=AlD.a CC<|Fct.o (KP [1,2,3,4,5] [11,27]) AlD.2 func11 (by
 rintro⟨(l:Sd_),_⟩ hp;refine ho (.cl Cf (l,()) λz2=>.br ((l.parts.length:Int)==0) (.lf CC (z2.1,false,())) (.ob ((0:Int)<=(0:Int)/\(0:Int)<(l.parts.length:Int))<|.cl D6 (l.page,l.parts.getD 0 default,()) λz3=>.ob ((0:Int)<=(1:Int)/\(1:Int)<=(z2.1.parts.length:Int))<|.br ((↑(z2.1.parts.length-1):Int)==0) (.cl HX (z3.1,()) λz4=>.cl Em (z4.1,()) λz5=>.ob (1+(z2.1.parts.length-1)<=z2.1.parts.length)<|.lf CC (⟨z2.1.net,z5.1,cut z2.1.parts 1 (z2.1.parts.length-1),z2.1.conns,z2.1.guesses⟩,true,())) (.cl Em (z3.1,()) λz6=>.ob (1+(z2.1.parts.length-1)<=z2.1.parts.length)<|.lf CC (⟨z2.1.net,z6.1,cut z2.1.parts 1 (z2.1.parts.length-1),z2.1.conns,z2.1.guesses⟩,true,())))) ?_;refine Af ?_ λ_=>(Aa (λh2=>lfY ?_) (λh2=>Ac ?_ λ_=>Af ?_ λ_=>(Ac ?_ λ_=>Aa (λh6=>Af ?_ λ_=>(Af ?_ λ_=>(Ac ?_ λ_=>lfY ?_))) (λh6=>Af ?_ λ_=>(Ac ?_ λ_=>lfY ?_)))))
 all_goals have hq:okArr l:=hp
 all_goals obtain⟨hsz1,hsz2,hsz3⟩:=hq.1
 all_goals
  have hpg:Ag l.page<=1000000000000:=by(obtain⟨Q,M,R,h1,h2,h3,h4⟩:=hq.2.2;exact J2 h1 o_ h3 h4)
  have hpl:l.parts.length<=2900000:=by(have h1:=hq.2.1;have:=Ab Ae l.parts;omega)
  try simp only[std,Nat.reduceAdd] at *
 all_goals first|trivial|omega|(rw[Y2 o_];exact⟨rfl,rfl⟩)|(obtain⟨g1,g2,g3,g4,g5⟩:=WD hq o_)|skip
 all_goals first|trivial|omega|exact⟨g1,g2,g3⟩|skip
 all_goals first|(rw[QN o_] at g5;first|exact g5|(rw[NJ o_,QN o_,Lj];exact⟨rfl,rfl⟩))|(rw[QS o_] at g5;first|exact g5|(rw[NJ o_,QS o_,Lj];exact⟨rfl,rfl⟩)))
def opWords:List ByteArray:=[⟨#[]⟩,⟨#[119,114,105,116,101]⟩,⟨#[97,100,100]⟩,⟨#[99,111,117,110,116]⟩,⟨#[108,111,111,107]⟩,⟨#[115,97,121]⟩]
def opW (n:Int):ByteArray:=if 1<=n/\n<=5 then opWords.getD n.toNat default else⟨#[]⟩
def AeB {n:Int} (h:1<=n) (h2:n<=5):opW n=opWords.getD n.toNat default:=by unfold opW;rw[Qa3 ⟨h,h2⟩]
abbrev Sc:Fct:=⟨[.v (.el .int)],[.el .str],λ(x_:Ty3_)=>True,λ(x_:Ty3_)=>(opW x_.1,())⟩
def AkV:=Aj1.a Sc<|Fct.o (KP [0,2] [5]) Aj1.2 func413 (by
 rintro⟨(n:Int),_⟩ hp;refine ho (.cl Aw (n,(1:Int),(5:Int),()) λz2=>.br (!z2.1) (.lf Sc ((⟨#[]⟩:ByteArray),())) (.ob (0<=wr (n-(1:Int))/\wr (n-(1:Int))<5)<|.ob ((wr (n-(1:Int))).toNat<5)<|.lf Sc ([(⟨#[119,114,105,116,101]⟩:ByteArray),(⟨#[97,100,100]⟩:ByteArray),(⟨#[99,111,117,110,116]⟩:ByteArray),(⟨#[108,111,111,107]⟩:ByteArray),(⟨#[115,97,121]⟩:ByteArray)].getD (wr (n-(1:Int))).toNat default,()))) ?_;refine Af trivial λ_=>(Aa (λh1=>lfY ?_) (λh1=>Ac ?_ λ_=>Ac ?_ λ_=>lfY ?_))
 all_goals
  try simp only[std,Nat.reduceAdd,inRange] at *
  try simp only[Qa2,Qe4,Qa8,Qb3] at *
 all_goals first|trivial|omega|(unfold opW;rw[Qa5 o_])|(rw[Al o_];omega)|skip
 all_goals rw[Al o_,AeB o_ o_]
 all_goals rcases(show n=1\/n=2\/n=3\/n=4\/n=5 from o_) with rfl|rfl|rfl|rfl|rfl<;>rfl)
def TS (b:UInt8) (s:ByteArray):(Hi b s).1.size<=s.size/\(Hi b s).2.1.size<=s.size:=by
 unfold Hi;cases h:G8 b (toL s) with
 | none=>exact⟨Qa9 _,Nat.zero_le _⟩
 | some r=>
  have:=Rr (p:=r.1) (q:=r.2) h;rw[BD] at this;exact⟨by dsimp only;rw[HT];exact this.1,by dsimp only;rw[HT];exact this.2⟩
def Ri {b:UInt8}:∀ {l p q:List UInt8},G8 b l=some (p,q)->l=p++b::q/\b∉p
 | [],p,q,h=>by cases h
 | x::l,p,q,h=>by
  rw[G8] at h;split at h
  ·rename_i hx;obtain⟨rfl,rfl⟩:=Prod.mk.inj (Option.some.inj h);exact⟨by rw[hx];rfl,by simp⟩
  ·rename_i hx;obtain⟨r,hr,he⟩:=Option.map_eq_some_iff.1 h;obtain⟨rfl,rfl⟩:=Prod.mk.inj he;obtain⟨h1,h2⟩:=Ri (p:=r.1) (q:=r.2) hr;refine⟨by rw[h1];rfl,?_⟩;rw[Qd2];rintro(h|h)
   ·exact hx h.symm
   ·exact h2 h
def Afg {a b:ByteArray} (h:toL a=toL b):a=b:=by rw[<-Ct a,h,Ct]
def Abh {x s:ByteArray} (hx:(32:UInt8)∉toL x):(((x++⟨#[32]⟩).size<=s.size/\s.extract 0 (x++⟨#[32]⟩).size=x++⟨#[32]⟩)↔(Hi 32 s).2.2=true/\(Hi 32 s).1=x)/\((Hi 32 s).2.2=true/\(Hi 32 s).1=x->(Hi 32 s).2.1=s.extract (x++⟨#[32]⟩).size s.size):=by
 have e32:toL (x++⟨#[32]⟩)=toL x++[32]:=by rw[Dg];rfl
 have hsz:(x++⟨#[32]⟩).size=(toL x).length+1:=by rw[Qa6];rfl
 have fwd:((x++⟨#[32]⟩).size<=s.size/\s.extract 0 (x++⟨#[32]⟩).size=x++⟨#[32]⟩)->G8 32 (toL s)=some (toL x,(toL s).drop ((toL x).length+1)):=by rintro⟨h1,h2⟩;have h3:=Qg5 toL h2;rw[Be,Qf1,e32,hsz] at h3;have h4:=(Qd9 ((toL x).length+1) (toL s)).symm;rw[h3,Qb5,List.singleton_append] at h4;have h5:=QV (p:=toL x) ((toL s).drop ((toL x).length+1)) hx;rw[<-h4] at h5;exact h5
 refine⟨⟨λh=>?_,λh=>?_⟩,λh=>?_⟩
 ·have:=fwd h;unfold Hi;rw[this];exact⟨rfl,Ct x⟩
 ·unfold Hi at h;cases hc:G8 32 (toL s) with
  | none=>rw[hc] at h;exact absurd h.1 Bool.false_ne_true
  | some r=>
   obtain⟨p,q⟩:=r;rw[hc] at h;have hp:ofL p=x:=h.2;obtain⟨h1,h2⟩:=Ri hc;have hpx:p=toL x:=by rw[<-hp,LX]
   rw[hpx] at h1;have hl:s.size=(toL x).length+(q.length+1):=by rw[<-BD,h1,Qa1,Qa7]
   refine⟨by rw[hsz];omega,?_⟩;refine Afg ?_;rw[Be,Qf1,e32,hsz,h1,List.take_append,Qb9 o_,show(toL x).length+1-(toL x).length=1 from o_];rfl
 ·unfold Hi at h ⊢;cases hc:G8 32 (toL s) with
  | none=>rw[hc] at h;exact absurd h.1 Bool.false_ne_true
  | some r=>
   obtain⟨p,q⟩:=r;rw[hc] at h;have hp:ofL p=x:=h.2;obtain⟨h1,h2⟩:=Ri hc;have hpx:p=toL x:=by rw[<-hp,LX]
   rw[hpx] at h1;rw[hsz,<-RQ,h1,List.drop_append,Qb2 o_,Qf8,show(toL x).length+1-(toL x).length=1 from o_];rfl
def pline (s:ByteArray):Sr_×Bool:=if(line8 s).2=true then((line8 s).1,true) else(default,false)
def plOk (k:Int) (t:ByteArray):Bool:=if k=1\/k=5 then decide (t.size<=60) else isName t
def Tj {k:Int} {t:ByteArray} (h:k=1\/k=5):plOk k t=decide (t.size<=60):=by unfold plOk;rw[Qa3 h]
def Sx {k:Int} {t:ByteArray} (h:¬ (k=1\/k=5)):plOk k t=isName t:=by unfold plOk;rw[Qa5 h]
def plineL (c:ByteArray×ByteArray×Bool):List ByteArray->Int->Sr_×Bool
 | [],_=>(default,false)
 | x::l,k=>if x=c.1 then(if c.2.2=true/\plOk k c.2.1=true then(⟨k,c.2.1⟩,true) else(default,false)) else plineL c l (k+1)
def Ss (s:ByteArray):∀ (l:List ByteArray) (k:Int),(∀ x,x∈l->(32:UInt8)∉toL x)->plineL (Hi 32 s) l k=if(line8L s (l.map λx=>x++⟨#[32]⟩) k).2=true then((line8L s (l.map λx=>x++⟨#[32]⟩) k).1,true) else(default,false)
 | [],k,_=>rfl
 | x::l,k,h=>by
  have hx:=h x Qd3;obtain⟨h1,h2⟩:=Abh (s:=s) hx;have ih:=Ss s l (k+1) λy hy=>h y (Qc3 _ hy)
  rw[plineL,Qd0,line8L];by_cases hc:(Hi 32 s).2.2=true/\(Hi 32 s).1=x
  ·rw[Qa3 hc.2.symm,Qa3 (h1.2 hc),<-h2 hc];have hl:(Hi 32 s).2.1.size=s.size-(x++⟨#[32]⟩).size:=by rw[h2 hc,Qc1];have:=(h1.2 hc).1;omega
   dsimp only;have hb:(if k=1\/k=5 then decide (s.size-(x++⟨#[32]⟩).size<=60) else isName (Hi 32 s).2.1)=plOk k (Hi 32 s).2.1:=by unfold plOk;rw[hl]
   rw[hb];by_cases hk:plOk k (Hi 32 s).2.1=true
   ·rw[Qa3 ⟨hc.1,hk⟩,Qa3 hk]
   ·rw[Qa5 (λq=>hk q.2),Qa5 hk]
  ·rw[Qa5 (λq=>hc (h1.1 q))];by_cases hw:x=(Hi 32 s).1
   ·rw[Qa3 hw,Qa5 (λq=>hc ⟨q.1,hw.symm⟩)];have hno:(Hi 32 s).2.2=false:=by
     cases hb:(Hi 32 s).2.2 with
     | false=>rfl
     | true=>exact absurd ⟨hb,hw.symm⟩ hc
    have hall:∀ (l:List ByteArray) (k:Int),(∀ x,x∈l->(32:UInt8)∉toL x)->(line8L s (l.map λx=>x++⟨#[32]⟩) k).2=false:=by
     intro l
     induction l with
     | nil=>intro k _;rfl
     | cons y l ih=>
      intro k hy;rw[Qd0,line8L,Qa5]
      ·exact ih _ λz hz=>hy z (Qc3 _ hz)
      ·intro q;have:=((Abh (s:=s) (hy y Qd3)).1.1 q).1;rw[hno] at this;cases this
    rw[Qa5 (by rw[hall l _ λy hy=>h y (Qc3 _ hy)];decide)]
   ·rw[Qa5 hw];exact ih
def Acq (s:ByteArray):plineL (Hi 32 s) (opWords.drop 1) 1=pline s:=by
 rw[Ss s _ _ (by decide)];rfl
def ZD {c:ByteArray×ByteArray×Bool} {i:Nat} {k:Int} (h:i<opWords.length):plineL c (opWords.drop i) k=if opWords.getD i default=c.1 then(if c.2.2=true/\plOk k c.2.1=true then(⟨k,c.2.1⟩,true) else(default,false)) else plineL c (opWords.drop (i+1)) (k+1):=by rw[drop_cons h];rfl
def Xa {c:ByteArray×ByteArray×Bool} {i:Nat} {k:Int} (h:opWords.length<=i):plineL c (opWords.drop i) k=(default,false):=by rw[Qb2 h];rfl
def OH:opWords.length=6:=rfl
abbrev Wm:Fct:=⟨[.v (.el .str)],[.el .line,.el .bool],λ(x_:Ty48_)=>x_.1.size<=4200000000,λ(x_:Ty48_)=>((pline x_.1).1,(pline x_.1).2,())⟩
abbrev ER (s:ByteArray):LInv:=⟨[⟨.s,7,true,.el .int⟩,⟨.b,2,true,.el .line⟩],λ(z_ x_:Ty127_)=>(1<=x_.1/\x_.1<=6/\plineL (Hi 32 s) (opWords.drop x_.1.toNat) x_.1=pline s)/\x_.2.1=z_.2.1,λ(x_:Ty127_)=>(6-x_.1).toNat⟩
def Ajh:=AkV.a Wm<|Fct.p (KP [0,2,3,4,5,6,7,8] [16,22,47]) (λ⟨s,_⟩=>lv [(3,ER s)]) AkV.2 func375 (by
 rintro⟨(s:ByteArray),_⟩ hp;refine ho (let q1_:Out:=.lf Wm (default,false,());.cl AbQ (s,(⟨#[32]⟩:ByteArray),()) λz2=>let q3_:=decide ((z2.2.1.size:Int)>60);lpx (ER s) ((1:Int),(default,())) λ(y2:Ty127_) bk2=>let q2_:Out:=.lf Wm (⟨y2.1,z2.2.1⟩,true,());let q0_:Out:=.cl BH (z2.2.1,()) λz4=>.br (!z4.1) q1_ q2_;let q4_:Out:=.br (!y2.1==5) q0_ q2_;.br (decide (y2.1<=5)) (.cl Sc (y2.1,()) λz3=>.br (!z3.1.toList==z2.1.toList) (.re (Value.string s)<|.re (Value.string z2.1)<|.re (Value.string z2.2.1)<|.re (Value.bool z2.2.2.1)<|.bk (bk2 (w1 y2.1,(y2.2.1,())))) (.br (y2.1==1) (.br (!z2.2.2.1) q1_ (.br q3_ q1_ (.br (!true) q0_ q2_))) (.br (!z2.2.2.1) q1_ (.br (y2.1==5) (.br q3_ q1_ q4_) q4_)))) q1_) ?_;refine Af ?_ λ_=>(Au ?_ λ(y2:Ty127_) i2=>Aa (λh3=>Af trivial λ_=>(Aa (λh4=>An<|An<|An<|An<|A8 ?_) (λh4=>Aa (λh6=>Aa (λh7=>lfY ?_) (λh7=>Aa (λh8=>lfY ?_) (λh8=>Aa (λh9=>Af ?_ λ_=>(Aa (λh11=>lfY ?_) (λh11=>lfY ?_))) (λh9=>lfY ?_)))) (λh6=>Aa (λh12=>lfY ?_) (λh12=>Aa (λh13=>Aa (λh14=>lfY ?_) (λh14=>Aa (λh15=>Af ?_ λ_=>(Aa (λh17=>lfY ?_) (λh17=>lfY ?_))) (λh15=>lfY ?_))) (λh13=>Aa (λh18=>Af ?_ λ_=>(Aa (λh20=>lfY ?_) (λh20=>lfY ?_))) (λh18=>lfY ?_))))))) (λh3=>lfY ?_))
 all_goals
  try simp only[Kk] at *
  try simp only[AbQ,std,Nat.reduceAdd] at *
  try simp only[show(#[32]:Array UInt8).getD 0 0=32 from rfl] at *
 all_goals first|trivial|omega|exact⟨o_,o_,Acq s⟩|(obtain⟨⟨a1,a2,a3⟩,e1⟩:=i2)
 all_goals have hcs:=TS 32 s
 all_goals generalize Hi 32 s=c at *
 all_goals first|omega|skip
 all_goals first|(have e:=ZD (c:=c) (i:=y2.1.toNat) (k:=y2.1) (by rw[OH];omega);rw[a3,<-AeB o_ o_] at e;first|rw[Qa3 ‹_›] at e|rw[Qa5 ‹_›] at e)|(have e:=Xa (c:=c) (i:=y2.1.toNat) (k:=y2.1) (by rw[OH];omega);rw[a3] at e)
 all_goals first|(rw[e];exact⟨rfl,rfl⟩)|(rw[Al o_,show(y2.1+1).toNat=y2.1.toNat+1 from o_];exact⟨⟨⟨o_,o_,e.symm⟩,e1⟩,o_⟩)|skip
 all_goals first|(rw[Qa3 ⟨‹_›,by first|(rw[Tj o_];exact Qf4 o_)|(rw[Sx o_];assumption)⟩] at e;rw[e];exact⟨rfl,rfl⟩)|(rw[Qa5 (by rintro⟨q1,q2⟩;first|exact tf q1 ‹_›|(rw[Tj o_] at q2;have:=Qg3 q2;omega)|(rw[Sx o_] at q2;exact tf q2 ‹_›))] at e;rw[e];exact⟨rfl,rfl⟩)|skip)
def Ada {s:ByteArray} (h:(pline s).2=true):pline s=((line8 s).1,true)/\(line8 s).2=true:=by
 unfold pline at h ⊢;split at h
 ·rename_i hc;rw[Qa3 hc];exact⟨rfl,hc⟩
 ·cases h
def AcK {s:ByteArray} (h:(pline s).2=false):(line8 s).2=false:=by
 unfold pline at h;split at h
 ·cases h
 ·rename_i hc;simpa using hc
abbrev CR (s:ByteArray):LInv:=⟨[⟨.s,4,true,.sl .line⟩,⟨.s,16,true,.el .int⟩,⟨.s,14,true,.sl .str⟩],λ(z_ x_:Ty102_)=>(0<=x_.2.1/\x_.2.1<=(spl 59 s).length/\(spl 59 s).length<1000000000000/\x_.1=lines8 ((spl 59 s).take x_.2.1.toNat)/\allOk8 ((spl 59 s).take x_.2.1.toNat)=true/\x_.2.1<=6)/\x_.2.2.1=z_.2.2.1,λ(x_:Ty102_)=>(spl 59 s).length-x_.2.1.toNat⟩
def Ajp:=Ajh.a Bs<|Fct.p (KP [0,2,3,4,6,7,8,14,15,16] [10,17,31]) (λ⟨s,_⟩=>lv [(5,CR s)]) Ajh.2 func313 (by
 rintro⟨(s:ByteArray),_⟩ hp;refine ho (.br (s.toList==(⟨#[]⟩:ByteArray).toList) (.lf Bs ([],true,())) (.cl Hs (s,(⟨#[59]⟩:ByteArray),()) λz2=>lpx (CR s) ([],((0:Int),(z2.1,()))) λ(y3:Ty102_) bk3=>.br (decide (y3.2.1<(z2.1.length:Int))) (.ix y3.2.1 y3.2.2.1.length<|.cl Wm (y3.2.2.1.getD y3.2.1.toNat default,()) λz3=>.br (!z3.2.1) (.lf Bs ([],false,())) (.br ((y3.1.length:Int)==6) (.lf Bs ([],false,())) (.ap (y3.1.length+[z3.1].length) 24<|.re (Value.string s)<|.re (Value.int IntKind.i64 (z2.1.length:Int))<|.bk (bk3 (y3.1++[z3.1],(w1 y3.2.1,(y3.2.2.1,()))))))) (.lf Bs (y3.1,true,())))) ?_;refine Aa (λh1=>lfY ?_) (λh1=>Af ?_ λ_=>(Au ?_ λ(y3:Ty102_) i3=>Aa (λh4=>Er ?_ λo5 o6=>Af ?_ λ_=>(Aa (λh8=>lfY ?_) (λh8=>Aa (λh9=>lfY ?_) (λh9=>Ek ?_ λ_=>An<|An<|A8 ?_)))) (λh4=>lfY ?_)));all_goals
  have hp1:s.size<=4200000000:=hp;have hk:=D0 59 s;have hm:∀ i,i<(spl 59 s).length->((spl 59 s).getD i default).size<=s.size:=λi h=>Kv (AN h)
  try simp only[Kk] at *
  try simp only[Hs,std,Nat.reduceAdd] at *
  try simp only[show(#[59]:Array UInt8).getD 0 0=59 from rfl] at *
 all_goals first|trivial|omega|(unfold parseScript;rw[Qa3 ‹_›];exact⟨rfl,rfl⟩)|exact⟨o_,o_,o_,rfl,rfl,o_⟩|(obtain⟨⟨a1,a2,a3,a4,a5,a6⟩,e1⟩:=i3;simp only[e1] at *)
 all_goals try have hl:y3.1.length=y3.2.1.toNat:=by rw[a4,lines8,Qf2,Qc2];omega
 all_goals first|trivial|omega|(have:=hm y3.2.1.toNat o_;omega)|skip
 all_goals first|(unfold parseScript;rw[Qa5 ‹_›,Qa5 (by rintro⟨q1,q2⟩;first|omega|(rw[Tq (i:=y3.2.1.toNat) o_ (AcK ‹_›)] at q2;cases q2))];exact⟨rfl,rfl⟩)|skip
 all_goals first|(rw[Qb9 (l:=spl 59 s) (i:=y3.2.1.toNat) o_] at a4 a5;unfold parseScript;rw[Qa5 ‹_›,Qa3 (by exact⟨o_,a5⟩)];exact⟨a4,rfl⟩)|skip
 all_goals (obtain⟨e,ho⟩:=Ada (s:=(spl 59 s).getD y3.2.1.toNat default) ‹_›;have e2:=OI (l:=spl 59 s) (i:=y3.2.1.toNat) o_;rw[Al o_,show(y3.2.1+1).toNat=y3.2.1.toNat+1 from o_,e];simp only[and_true];exact⟨⟨o_,o_,o_,by rw[e2.1,a4],by rw[e2.2,a5,ho];rfl,o_⟩,o_⟩))
def hasPre (s p:ByteArray):Bool:=decide (p.size<=s.size/\s.extract 0 p.size=p)
abbrev RO:Fct:=⟨[.v (.el .str),.v (.el .str)],[.el .bool],λ(x_:Ty82_)=>x_.1.size<=1000000000000/\x_.2.1.size<=1000000000000,λ(x_:Ty82_)=>(hasPre x_.1 x_.2.1,())⟩
def AlL:=Ajp.a RO<|Fct.o [0,1,4] Ajp.2 func410 (by
 rintro⟨(s:ByteArray),(p:ByteArray),_⟩ hp;exact hg (.br (decide ((↑(ByteArray.size s):Int)>=(↑(ByteArray.size p):Int))) (.ob ((0:Int)<=(↑(ByteArray.size p):Int)/\(↑(ByteArray.size p):Int)<=(↑(ByteArray.size s):Int))<|.lf RO ((ByteArray.extract s 0 (↑(ByteArray.size p):Int).toNat).toList==ByteArray.toList p,())) (.lf RO (false,()))) (@hasPre.eq_1))
def cutPre (s p:ByteArray):ByteArray×Bool:=if hasPre s p=true then(s.extract p.size s.size,true) else(s,false)
abbrev Jz:Fct:=⟨[.v (.el .str),.v (.el .str)],[.el .str,.el .bool],λ(x_:Ty82_)=>x_.1.size<=1000000000000/\x_.2.1.size<=1000000000000,λ(x_:Ty82_)=>((cutPre x_.1 x_.2.1).1,(cutPre x_.1 x_.2.1).2,())⟩
def Aj9:=AlL.a Jz<|Fct.o (KP [0,1,4,5] [9]) AlL.2 func371 (by
 rintro⟨(s:ByteArray),(p:ByteArray),_⟩ hp;exact hg (.cl RO (s,p,()) λz2=>.br (!z2.1) (.lf Jz (s,false,())) (.ob ((0:Int)<=(↑(ByteArray.size p):Int)/\(↑(ByteArray.size p):Int)<=(↑(ByteArray.size s):Int))<|.lf Jz (ByteArray.extract s (↑(ByteArray.size p):Int).toNat (ByteArray.size s),true,()))) (an_ @cutPre.eq_1<|(λh=>(Qg3 h).1:hasPre s p=true->p.size<=s.size)))
def Ai0:=Aj9.a Jz<|Fct.o [0,1,4,5] Aj9.2 func309 (by
 rintro⟨(s:ByteArray),(p:ByteArray),_⟩ hp;exact hq (.cl Jz (s,p,()) λz2=>.lf Jz (z2.1,z2.2.1,())))
def Yc (w:ByteArray):cutPre w impW=if hasImp w then(w.extract 7 w.size,true) else(w,false):=by
 unfold cutPre hasPre;by_cases h:hasImp w
 ·rw[Qa3 h,Qf4 (show impW.size<=w.size/\w.extract 0 impW.size=impW from h),Qa3 rfl];rfl
 ·rw[Qa5 h,decide_eq_false (show ¬ (impW.size<=w.size/\w.extract 0 impW.size=impW) from h),Qa5 (by decide)]
def Aa0:∀ l:List ByteArray,LR l ⟨#[59]⟩=gl59 l
 | []=>rfl
 | [w]=>by show ofL (toL w)=w;exact Ct w
 | w::x::l=>by have ih:=Aa0 (x::l);unfold LR at ih ⊢;rw[gl59,<-ih];show ofL (toL w++[59]++RZ [59] ((x::l).map toL))=_;rw[JV,JV,Ct];rfl
def AhG:∀ l:List ByteArray,(gl59 l).size<=szL Ae l
 | []=>Qa9 _
 | [w]=>by rw[Ah];show w.size<=w.size+1+0;omega
 | w::x::l=>by have ih:=AhG (x::l);rw[gl59,Ah,Qa6,Qa6];have h1:ByteArray.size ⟨#[59]⟩=1:=rfl;simp only[Ae] at *;omega
def Abz {α:Type} [Inhabited α] (f:α->Nat) {l:List α} (h:0<l.length):szL f l=f (l.getD 0 default)+1+szL f (l.drop 1):=by
 have:=OT f h;rw[Qf1] at this;exact this
def pmInv (s b:ByteArray) (ps:List ByteArray) (im:List Sb_):Prop:=pmGo b ps im=parseModule s b/\szL Ae ps+im.length<=s.size+1
def Ae5 (s b:ByteArray):pmInv s b (spl 59 s) []:=⟨rfl,by rw[N5];exact Qa9 _⟩
def AbZ {s b:ByteArray} {ps:List ByteArray} {im:List Sb_} (h:pmInv s b ps im) (h0:0<ps.length) (hi:hasImp (ps.getD 0 default)) (ha:(parseAddr ((ps.getD 0 default).extract 7 (ps.getD 0 default).size) b).2=true):pmInv s b (ps.drop 1) (im++[(parseAddr ((ps.getD 0 default).extract 7 (ps.getD 0 default).size) b).1]):=by
 obtain⟨h1,h2⟩:=h;have e:ps=ps.getD 0 default::ps.drop 1:=by have:=drop_cons (l:=ps) (i:=0) h0;rw[Qf1] at this;exact this
 rw[Abz Ae h0] at h2;rw[e,pmGo,Qa3 hi,Qa3 ha] at h1;exact⟨h1,by rw[Qa1,Qd5];omega⟩
def Aad {s b:ByteArray} {ps:List ByteArray} {im:List Sb_} (h:pmInv s b ps im) (h0:0<ps.length) (hi:hasImp (ps.getD 0 default)) (ha:(parseAddr ((ps.getD 0 default).extract 7 (ps.getD 0 default).size) b).2=false):parseModule s b=([],[],false):=by
 have e:ps=ps.getD 0 default::ps.drop 1:=by have:=drop_cons (l:=ps) (i:=0) h0;rw[Qf1] at this;exact this
 rw[<-h.1,e,pmGo,Qa3 hi,Qa5 (by rw[ha];decide)]
def AaD {s b:ByteArray} {ps:List ByteArray} {im:List Sb_} (h:pmInv s b ps im) (h0:ps.length=0\/¬ hasImp (ps.getD 0 default)):parseModule s b=if(parseScript (gl59 ps)).2=true then(im,(parseScript (gl59 ps)).1,true) else([],[],false):=by
 rw[<-h.1];cases ps with
 | nil=>rw[pmGo];show _=if(parseScript ⟨#[]⟩).2=true then _ else _;rw[OC,Qa3 rfl];show _=(im,(parseScript ⟨#[]⟩).1,true);rw[OC]
 | cons w l=>
  rcases h0 with h0|h0
  ·cases h0
  ·rw[pmGo,Qa5 (show ¬ hasImp w from h0)]
def AdX:(⟨#[105,109,112,111,114,116,32]⟩:ByteArray)=impW:=rfl
abbrev CM (s:ByteArray) (b:ByteArray):LInv:=⟨[⟨.s,7,true,.sl .str⟩,⟨.s,8,true,.sl .addr⟩],λ_ (x_:Ty128_)=>pmInv s b x_.1 x_.2.1,λ(x_:Ty128_)=>x_.1.length⟩
def AjC:=Ai0.a BX<|Fct.p (KP [0,1,4,5,6,7,8,9,10,11,12,13,14] [20,29,37,53]) (λ⟨s,b,_⟩=>lv [(3,CM s b)]) Ai0.2 func227 (by
 rintro⟨(s:ByteArray),(b:ByteArray),_⟩ hp;refine ho (let q3_:=(⟨#[59]⟩:ByteArray);let q2_:Out:=.lf BX ([],[],false,());.cl Hs (s,q3_,()) λz2=>lpx (CM s b) (z2.1,([],())) λ(y2:Ty128_) bk2=>let q1_:=(y2.1.length:Int);let q0_:Out:=.cl QZ (y2.1,q3_,()) λz4=>.cl Bs (z4.1,()) λz5=>.br (!z5.2.1) q2_ (.lf BX (y2.2.1,z5.1,true,()));.br (decide (q1_>0)) (.ob ((0:Int)<=(0:Int)/\(0:Int)<q1_)<|.ob (0<y2.1.length)<|.cl Jz (y2.1.getD 0 default,(⟨#[105,109,112,111,114,116,32]⟩:ByteArray),()) λz3=>.br (!z3.2.1) q0_ (.cl AO (z3.1,b,()) λz6=>.br (!z6.2.1) q2_ (.ap (y2.2.1.length+[z6.1].length) 32<|.ob ((0:Int)<=(1:Int)/\(1:Int)<=q1_)<|.ob (1+(y2.1.length-1)<=y2.1.length)<|.re (Value.string s)<|.re (Value.string b)<|.bk (bk2 (cut y2.1 1 (y2.1.length-1),(y2.2.1++[z6.1],())))))) q0_) ?_;refine Af ?_ λ_=>(Au ?_ λ(y2:Ty128_) i2=>Aa (λh3=>Ac ?_ λ_=>Ac ?_ λ_=>Af ?_ λ_=>(Aa (λh7=>Af ?_ λ_=>(Af ?_ λ_=>(Aa (λh10=>lfY ?_) (λh10=>lfY ?_)))) (λh7=>Af ?_ λ_=>(Aa (λh12=>lfY ?_) (λh12=>Ek ?_ λ_=>Ac ?_ λ_=>Ac ?_ λ_=>An<|An<|A8 ?_))))) (λh3=>Af ?_ λ_=>(Af ?_ λ_=>(Aa (λh19=>lfY ?_) (λh19=>lfY ?_)))))
 all_goals
  have hp1:s.size<=4000000000/\b.size<=4000000000:=hp;try simp only[QZ,Hs,std,Nat.reduceAdd] at *
 all_goals first|trivial|omega|skip
 all_goals try simp only[show(#[59]:Array UInt8).getD 0 0=59 from rfl,AdX,Aa0,Lj,Yc] at *
 all_goals first|omega|exact Ae5 s b|(have hz:=i2.2;have hgl:=AhG y2.1;have hlen:=Ab Ae y2.1)
 all_goals try (have hw:=C6 Ae (l:=y2.1) (i:=0) o_;simp only[Ae] at hw)
 all_goals by_cases hi:hasImp (y2.1.getD 0 default)
 all_goals first|simp only[Qa3 hi,reduceCtorEq] at * | simp only[Qa5 hi,reduceCtorEq] at * | skip
 all_goals
  try contradiction
  try have hxx:((y2.1.getD 0 default).extract 7 (y2.1.getD 0 default).size).size<=4000000000:=by(rw[Qc1];omega)
 all_goals first|omega|exact⟨o_,o_⟩|exact⟨o_,by decide⟩|skip
 all_goals first|(rw[Aad i2 o_ hi ‹_›];exact⟨rfl,rfl,rfl⟩)|(rw[AaD i2 (by first|exact .inl o_|exact .inr hi)];(first|rw[Qa3 ‹_›]|rw[Qa5 (by intro q;exact tf q ‹_›)]);exact⟨rfl,by first|rfl|assumption,rfl⟩)|exact⟨AbZ i2 o_ hi ‹_›,by rw[Qe3];omega⟩)
def NZ {p:Sa_} {a:Sb_} (h:0<=findMod p.bh a) (h1:(p.bh.getD (findMod p.bh a).toNat default).done=true) (h2:(p.bh.getD (findMod p.bh a).toNat default).code=1):imports p a=((parseModule (p.bh.getD (findMod p.bh a).toNat default).body a.host).1,(parseModule (p.bh.getD (findMod p.bh a).toNat default).body a.host).2.2):=by
 unfold imports;rw[Qa5];rintro(q|q|q)
 ·omega
 ·exact tf h1 q
 ·exact q h2
def MY {p:Sa_} {a:Sb_} (h:0<=findMod p.bh a) (h1:(p.bh.getD (findMod p.bh a).toNat default).done=true) (h2:(p.bh.getD (findMod p.bh a).toNat default).code=1):(parseModule (p.bh.getD (findMod p.bh a).toNat default).body a.host).1=(imports p a).1:=by rw[NZ h h1 h2]
def Mz {p:Sa_} {a:Sb_} (h:findMod p.bh a<0\/(p.bh.getD (findMod p.bh a).toNat default).done=false\/¬ (p.bh.getD (findMod p.bh a).toNat default).code=1):imports p a=([],false):=by unfold imports;rw[Qa3 h]
def YX {p:Sa_} {a:Sb_} {s o:List Sb_} (h:inL s a=false) (hi:(imports p a).1=[]):visit p a (s,o)=(s++[a],o++[a]):=by
 rw[Wp (st:=(s,o)) h,hi];rfl
abbrev I5:GS:=⟨[.l (.v (.el .page)),.l (.v (.el .addr)),.b (.sl .addr),.b (.sl .addr)],[],λ(x_:Ty121_)=>okVis x_.1 x_.2.1 x_.2.2.1 x_.2.2.2.1,λ(x_:Ty121_)=>((()),((visit x_.1 x_.2.1 (x_.2.2.1,x_.2.2.2.1)).1,(visit x_.1 x_.2.1 (x_.2.2.1,x_.2.2.2.1)).2,()))⟩
abbrev Ce (p:Sa_) (a:Sb_) (s:(List Sb_)) (o:(List Sb_)):LInv:=⟨[⟨.s,64,true,.el .int⟩,⟨.b,2,true,.sl .addr⟩,⟨.b,3,true,.sl .addr⟩,⟨.b,4,false,.el .page⟩,⟨.b,5,true,.el .addr⟩,⟨.s,62,true,.sl .addr⟩],λ(z_ x_:Ty129_)=>(((visInv p a s o x_.2.1 x_.2.2.1 x_.1)/\x_.2.2.2.1=z_.2.2.2.1)/\x_.2.2.2.2.1=z_.2.2.2.2.1)/\x_.2.2.2.2.2.1=z_.2.2.2.2.2.1,λ(x_:Ty129_)=>(imports p a).1.length-x_.1.toNat⟩
def Alq:=AjC.G I5<|GS.ofRec (S:=I5) (L:=λ⟨p,a,s,o,_⟩=>λ|7=>some (Ce p a s o)|_=>none) (kp:=[2,3,4,5,8,9,13,18,48,62,63,64,65,1000018,1000048,1000065]) mVis AjC.2 func383 k_ k_ (by
 intro n0;rintro⟨(p:Sa_),(a:Sb_),(s:List Sb_),(o:List Sb_),_⟩ hp hm;refine ho (let q0_:Out:=.ap (o.length+[a].length) 32<|GS.out I5 ((()),(s++[a],o++[a],()));.cl GM (s,a,()) λz2=>.br (z2.1) (GS.out I5 ((()),(s,o,()))) (.ap (s.length+[a].length) 32<|.cl Hd (p,a,()) λ(z3:Ty3_)=>let q2_:=inB z3.1 p.bh.length;let q1_:=p.bh.getD z3.1.toNat default;.br (decide (z3.1>=0)) (.ob q2_<|.br (q1_.done) (.ob q2_<|.br (q1_.code==1) (.ob q2_<|.cl BX (q1_.body,a.host,()) λz4=>let q3_:=(z4.1.length:Int);lpx (Ce p a s o) ((0:Int),(s++[a],(o,(p,(a,(z4.1,())))))) λ(y12:Ty129_) bk12=>.br (decide (y12.1<q3_)) (.ix y12.1 y12.2.2.2.2.2.1.length<|.ob (I5.pre (y12.2.2.2.1,y12.2.2.2.2.2.1.getD y12.1.toNat default,y12.2.1,y12.2.2.1,())/\mVis (y12.2.2.2.1,y12.2.2.2.2.2.1.getD y12.1.toNat default,y12.2.1,y12.2.2.1,())<n0)<|.lt _ (I5.fn (y12.2.2.2.1,y12.2.2.2.2.2.1.getD y12.1.toNat default,y12.2.1,y12.2.2.1,())) λz5=>.re (Value.int IntKind.i64 z3.1)<|.re (Value.int IntKind.i64 q3_)<|.bk (bk12 (w1 y12.1,(z5.2.1,(z5.2.2.1,(y12.2.2.2.1,(y12.2.2.2.2.1,(y12.2.2.2.2.2.1,())))))))) (.ap (y12.2.2.1.length+[y12.2.2.2.2.1].length) 32<|GS.out I5 ((()),(y12.2.1,y12.2.2.1++[y12.2.2.2.2.1],())))) q0_) q0_) q0_)) ?_;repeat' (guard_target =~ Out.holds _ _;first|refine Au (li:=Ce p a s o) ?_ λ(y12:Ty129_) i12=>?_|refine GS.leafY ?_|refine Aa (λ_=>?_) λ_=>?_|refine Af ?_ λ_=>?_|refine Ac ?_ λ_=>?_|refine DW ?_|refine A8 ?_|refine An ?_|refine Ek ?_ λ_=>?_|refine Er ?_ λ_ _=>?_)
 all_goals have hq:okVis p a s o:=hp
 all_goals obtain⟨p1,p2,p3,p4,p5⟩:=(show okVis p a s o from hp)
 all_goals
  have hsl:s.length<=100000000000:=by(simp only[totV] at p4;omega)
  have hil:=KX a p2;have hfm:=BW p.bh a;try simp only[Kk] at *
  try simp only[std,Nat.reduceAdd,Kn,Ry] at *
 all_goals first|trivial|omega|skip
 all_goals first|(rw[Su ‹_›];exact⟨rfl,rfl⟩)|exact⟨p2 _ o_,p3⟩|skip
 all_goals first|(have hI1:=MY (p:=p) (a:=a) o_ ‹_› ‹_›)|(have hI2:(imports p a).1=[]:=by rw[Mz (by first|exact .inl o_|exact .inr (.inl ‹_›)|exact .inr (.inr ‹_›))])
 all_goals first|(rw[YX ‹_› hI2];exact⟨rfl,rfl⟩)|exact WR p a s o p5|(obtain⟨⟨⟨i1,e1⟩,e2⟩,e3⟩:=i12;simp only[e1,e2,e3,hI1] at *)
 all_goals
  have i2:=i1.1;have i3:=P3 i1 hq
 all_goals first|trivial|omega|exact⟨i2,‹_›⟩|skip
 all_goals first|exact⟨(J7 i1 ‹_› ‹_› hq).1,Qf0 (J7 i1 ‹_› ‹_› hq).2 (Nat.le_of_lt_succ hm)⟩|(rw[Al o_];simp only[and_true];exact⟨SB i1 ‹_›,o_⟩)|(rw[<-PT i1 o_ ‹_›];exact⟨rfl,rfl⟩))
def AlH:=Alq.a GF<|Fct.o [2,3,4,5,6] Alq.2 func318 (by
 rintro⟨(p:Sa_),(a:Sb_),_⟩ hp;refine ho (.ob (I5.pre (p,a,[],[],()))<|.lt _ (I5.fn (p,a,[],[],())) λz2=>.lf GF (z2.2.2.1,())) ?_;refine Ac ?_ λ_=>DW (lfY ?_)
 all_goals try simp only[std,Nat.reduceAdd] at *
 all_goals first|assumption|rfl|skip)
abbrev Dh (p:Sa_) (a:Sb_):LInv:=⟨[⟨.s,12,true,.el .int⟩,⟨.b,2,false,.el .page⟩,⟨.s,10,true,.sl .addr⟩],λ(z_ x_:Ty123_)=>((0<=x_.1/\x_.1<=(reachOf p a).length/\((reachOf p a).drop x_.1.toNat).all (λb=>decide (0<=findMod p.bh b)&&(p.bh.getD (findMod p.bh b).toNat default).done)=graphReady p a)/\x_.2.1=z_.2.1)/\x_.2.2.1=z_.2.2.1,λ(x_:Ty123_)=>(reachOf p a).length-x_.1.toNat⟩
def Akk:=AlH.a CW<|Fct.p (KP [2,3,4,6,7,10,11,12] [13,29]) (λ⟨p,a,_⟩=>lv [(2,Dh p a)]) AlH.2 func214 (by
 rintro⟨(p:Sa_),(a:Sb_),_⟩ hp;refine ho (.cl GF (p,a,()) λz2=>lpx (Dh p a) ((0:Int),(p,(z2.1,()))) λ(y2:Ty123_) bk2=>.br (decide (y2.1<(z2.1.length:Int))) (.ix y2.1 y2.2.2.1.length<|.cl Hd (y2.2.1,y2.2.2.1.getD y2.1.toNat default,()) λ(z3:Ty3_)=>.br (decide (z3.1<0)) (.lf CW (false,())) (.ob (inB z3.1 y2.2.1.bh.length)<|.br (!(y2.2.1.bh.getD z3.1.toNat default).done) (.lf CW (false,())) (.re (Value.int IntKind.i64 (z2.1.length:Int))<|.bk (bk2 (w1 y2.1,(y2.2.1,(y2.2.2.1,()))))))) (.lf CW (true,()))) ?_;refine Af ?_ λ_=>(Au ?_ λ(y2:Ty123_) i2=>Aa (λh3=>Er ?_ λo4 o5=>Af ?_ λ_=>(Aa (λh7=>lfY ?_) (λh7=>Ac ?_ λ_=>Aa (λh9=>lfY ?_) (λh9=>An<|A8 ?_)))) (λh3=>lfY ?_))
 all_goals obtain⟨p1,p2,p3,p4,p5⟩:=(show okVis p a [] [] from hp)
 all_goals
  have hl:=JI (a:=a) p4;try simp only[Kk] at *
  try simp only[std,Nat.reduceAdd,Kn] at *
 all_goals first|trivial|omega|exact⟨p1,p2,p3,p4,p5⟩|exact⟨o_,o_,rfl⟩|skip
 all_goals (obtain⟨⟨⟨i0,i1,i3⟩,e1⟩,e2⟩:=i2;simp only[e1,e2] at *)
 all_goals have hf:=BW p.bh ((reachOf p a).getD y2.1.toNat default)
 all_goals first|assumption|omega|skip
 all_goals first|(rw[Zj o_] at i3;exact i3)|rw[Ad7 o_] at i3
 all_goals first|(rw[<-i3,decide_eq_false o_];rfl)|(rw[<-i3,Qf4 o_,show Sf_.done _=false from ‹_›];rfl)|(rw[Qf4 o_,show Sf_.done _=true from ‹_›,Bool.true_and,Bool.true_and] at i3;rw[Al o_,show(y2.1+1).toNat=y2.1.toNat+1 from o_];simp only[and_true];exact⟨⟨o_,o_,i3⟩,o_⟩))
abbrev C7 (p:Sa_) (a:Sb_):LInv:=⟨[⟨.s,15,true,.el .int⟩,⟨.b,2,false,.el .page⟩,⟨.s,13,true,.sl .addr⟩],λ(z_ x_:Ty123_)=>((0<=x_.1/\x_.1<=(reachOf p a).length/\((reachOf p a).drop x_.1.toNat).any (λb=>!(imports p b).2)=graphFails p a)/\x_.2.1=z_.2.1)/\x_.2.2.1=z_.2.2.1,λ(x_:Ty123_)=>(reachOf p a).length-x_.1.toNat⟩
def Ank:=Akk.a Eg<|Fct.p (KP [2,3,4,6,7,10,13,14,15] [16,41,56]) (λ⟨p,a,_⟩=>lv [(2,C7 p a)]) Akk.2 func319 (by
 rintro⟨(p:Sa_),(a:Sb_),_⟩ hp;refine ho (let q0_:Out:=.lf Eg (true,());.cl GF (p,a,()) λz2=>let q3_:=(z2.1.length:Int);lpx (C7 p a) ((0:Int),(p,(z2.1,()))) λ(y2:Ty123_) bk2=>.br (decide (y2.1<q3_)) (.ix y2.1 y2.2.2.1.length<|.cl Hd (y2.2.1,y2.2.2.1.getD y2.1.toNat default,()) λ(z3:Ty3_)=>let q2_:=inB z3.1 y2.2.1.bh.length;let q1_:=y2.2.1.bh.getD z3.1.toNat default;.br (decide (z3.1<0)) q0_ (.ob q2_<|.br (!q1_.done) q0_ (.ob q2_<|.br (q1_.code != 1) q0_ (.ob q2_<|.cl BX (q1_.body,(y2.2.2.1.getD y2.1.toNat default).host,()) λz4=>.br (!z4.2.2.1) q0_ (.re (Value.int IntKind.i64 q3_)<|.bk (bk2 (w1 y2.1,(y2.2.1,(y2.2.2.1,()))))))))) (.lf Eg (false,()))) ?_;refine Af ?_ λ_=>(Au ?_ λ(y2:Ty123_) i2=>Aa (λh3=>Er ?_ λo4 o5=>Af ?_ λ_=>(Aa (λh7=>lfY ?_) (λh7=>Ac ?_ λ_=>Aa (λh9=>lfY ?_) (λh9=>Ac ?_ λ_=>Aa (λh11=>lfY ?_) (λh11=>Ac ?_ λ_=>Af ?_ λ_=>(Aa (λh14=>lfY ?_) (λh14=>An<|A8 ?_))))))) (λh3=>lfY ?_))
 all_goals obtain⟨p1,p2,p3,p4,p5⟩:=(show okVis p a [] [] from hp)
 all_goals
  have hl:=JI (a:=a) p4;try simp only[Kk] at *
  try simp only[std,Nat.reduceAdd,Kn] at *
 all_goals first|trivial|omega|exact⟨p1,p2,p3,p4,p5⟩|exact⟨o_,o_,rfl⟩|skip
 all_goals (obtain⟨⟨⟨i0,i1,i3⟩,e1⟩,e2⟩:=i2;simp only[e1,e2] at *)
 all_goals have hf:=BW p.bh ((reachOf p a).getD y2.1.toNat default)
 all_goals first|assumption|omega|exact⟨p2 _ o_,J5 (AN o_) p3⟩|skip
 all_goals first|(rw[Aas o_] at i3;exact i3)|rw[Aeq o_] at i3
 all_goals first|(rw[Mz (by first|exact .inl o_|exact .inr (.inl ‹_›)|exact .inr (.inr ‹_›))] at i3;rw[<-i3];rfl)|(rw[NZ o_ ‹_› ‹_›] at i3;first|(rw[<-i3];dsimp only;rw[show Prod.snd (Prod.snd (parseModule _ _))=false from ‹_›];rfl)|(dsimp only at i3;rw[show Prod.snd (Prod.snd (parseModule _ _))=true from ‹_›,Bool.not_true,Bool.false_or] at i3;rw[Al o_,show(y2.1+1).toNat=y2.1.toNat+1 from o_];simp only[and_true];exact⟨⟨o_,o_,i3⟩,o_⟩)))
open Go.RowKit Go.Lib Go.Sort in
def Tk (w:World):(callFunc 496 #[]).run Tryz.prog w=.ok (.value (.tuple #[])) w:=run_call_mark0 func496 k_ k_ k_ .disable k_ w
open Go.RowKit Go.Lib Go.Sort in
def VH (w:World):(callFunc 498 #[]).run Tryz.prog w=.ok (.value (.tuple #[])) w:=run_call_mark0 func498 k_ k_ k_ .enable k_ w
open Go.RowKit Go.Lib Go.Sort in
def Z4 (a:Addr) (w:World):(callFunc 499 #[.pointer (some a)]).run Tryz.prog w=.ok (.value (.tuple #[])) w:=run_call_marked func499 k_ k_ k_ .acquire k_ a w
open Go.RowKit Go.Lib Go.Sort in
def Aav (a:Addr) (w:World):(callFunc 501 #[.pointer (some a)]).run Tryz.prog w=.ok (.value (.tuple #[])) w:=run_call_marked func501 k_ k_ k_ .releaseMerge k_ a w
open Go.RowKit Go.Lib Go.Sort in
def AeX (a:Addr) (x:Value) (u:FrameMode) (w:World) (hc:w.cell? a=some x) (hz:w.frozen? a=false) :
 CallsD Tryz.prog 480 #[.pointer (some a),.bool true] u w λe u' w'=>u'=u/\(e=.returned (.tuple #[])/\w'=w.drew.setCell a (.int .u32 1)):=by
 have hc':w.drew.cell? a=some x:=by go_simp
 have hz':w.drew.frozen? a=false:=by go_simp
 have hst:=run_call_store (P:=Tryz.prog) func490 k_ k_ k_ k_ (k:=.u32) (y:=1) hc' hz'
 go_enter_d func480,Tryz.ntmps480
 go_wp2
 go_region_calls
 all_goals (go_end0;exact⟨rfl,rfl⟩)
open Go.RowKit Go.Lib Go.Sort in
def Ab7 (a:Addr) (u:FrameMode) (w:World) (hc:w.cell? a=some (.int .i32 1)) (hz:w.frozen? a=false) :
 CallsD Tryz.prog 479 #[.pointer (some a)] u w λe u' w'=>u'=u/\(e=.returned (.tuple #[])/\w'=w.setCell a (.int .i32 0)):=by
 have hd:=Tk;have he:=VH;have hr:=Aav;have hadd:=run_call_add (P:=Tryz.prog) func502 k_ k_ k_ .i32 k_ (y:=-1) (s:=0) hc hz (by simp[go_sem];rfl);have hcv:=run_convert_to_unsafe (P:=Tryz.prog) (src:=460) (dst:=374) Tryz.underlying460 Tryz.underlying374 k_ hc
 go_enter_d func479,Tryz.ntmps479
 go_wp2
 try go_end0
 go_wp2
 all_goals (try go_end0)
 all_goals exact⟨rfl,rfl⟩
open Go.RowKit Go.Lib Go.Sort in
def AgL (a:Addr) (w:World) (hc:w.cell? a=some (.int .i32 0)) (hz:w.frozen? a=false) :
 Calls Tryz.prog 478 #[.pointer (some a)] w λe w'=>e=.returned (.tuple #[])/\w'=w.setCell a (.int .i32 1):=by
 have hd:=Tk;have he:=VH;have ha:=Z4;have hcas:=run_call_cas_hit (P:=Tryz.prog) func497 k_ k_ k_ .i32 k_ (y:=1) hc hz;have hc':(w.setCell a (.int .i32 1)).cell? a=some (.int .i32 1):=World.cell?_setCell_same w a _ hc;have hcv:=run_convert_to_unsafe (P:=Tryz.prog) (src:=460) (dst:=374) Tryz.underlying460 Tryz.underlying374 k_ hc'
 go_enter func478,Tryz.ntmps478
 go_wp2
 first|go_end0|(simp only[Exit.inBlock,Exit.then];refine bodyPost_ret (results_none rfl _ _ _) rfl ?_)|refine bodyPost_ret (results_none rfl _ _ _) rfl ?_
 go_wp2
 all_goals (try go_end0)
 all_goals exact⟨rfl,rfl⟩
open Go.RowKit Go.Lib Go.Sort in
def Ad2:Tryz.zeroCells429=Array.replicate 256 (.int .u8 0):=k_
open Go.RowKit Go.Lib Go.Sort in
def Aiz (w:World):(storeCells ⟨w.heap.size,0,none⟩ Tryz.zeroCells429.toList 0).run Tryz.prog (w.alloc (.cells Tryz.zeroCells429 429))=.ok () (w.alloc (.cells Tryz.zeroCells429 429)):=run_storeCells_new (P:=Tryz.prog) w 429 Tryz.zeroCells429 Tryz.zeroCells429 k_ rfl k_
open Go.RowKit Go.Lib Go.Sort in
def Afp (b c cap:Nat) (w:World) (h4:w.cell? ⟨b,4,none⟩=some (.slice (some ⟨c,0,none⟩) 4 cap)) (c0:w.cell? ⟨c,0,none⟩=some (.string ⟨#[91]⟩)) (c1:w.cell? ⟨c,1,none⟩=some (.string ⟨#[60]⟩)) (c2:w.cell? ⟨c,2,none⟩=some (.string ⟨#[93]⟩)) (c3:w.cell? ⟨c,3,none⟩=some (.string ⟨#[62]⟩)) (hbw:b<w.heap.size) (hcw:c<w.heap.size) :
 Calls Tryz.prog 467 #[.pointer (some ⟨b,0,none⟩)] w λe w'=>e=.returned (.iface 430 (.pointer (some ⟨w.heap.size,0,none⟩)))/\∃ r:Array Value,w'=w.alloc (.cells r 429)/\r.size=256/\∀ t:Nat,t<256->r[t]? = some (.int .u8 (if t=91 then 60 else if t=93 then 62 else t)):=by
 have hsc:=Aiz w;have hcv:∀ (r:Array Value) (j:Nat),(w.alloc (.cells r 429)).cell? ⟨c,j,none⟩=w.cell? ⟨c,j,none⟩:=λr j=>by rw[World.cell?_alloc_past _ _ _ hcw]
 go_enter func467,Tryz.ntmps467
 go_wp2
 refine wp_loop_rounds 3 ?_;repeat any_goals (rw[rounds_succ];go_wp2)
 go_loopw [61] (λvi wr=>∃ (i:Nat) (r:Array Value),vi=.int .i64 i/\i<=256/\r.size=256/\wr=w.alloc (.cells r 429)/\∀ t:Nat,t<256->r[t]? = some (.int .u8 (if t<i then t else 0))) (λvi _=>257-(RowKit.intOf vi).toNat)
 case atStart=>exact⟨0,Tryz.zeroCells429,rfl,o_,by rw[Ad2];simp,rfl,λt ht=>by rw[Ad2,Array.getElem?_replicate,Qa3 ht,Qa5 o_]⟩
 case round=>
  obtain⟨i,r,rfl,hi,hs,rfl,hr⟩:=hrel;by_cases h1:i<256
  ·have hcell:=GJ w r 429 i;have hfz:=Q7 w r 429 i;rw[hr i h1,Qa5 o_] at hcell;have hR:Hid (∀ t:Nat,t<256->r[t]? = some (.int .u8 (if t<i then t else 0))):=hr;have hx:IntKind.u8.wrap (i:Int)=i:=by simp[IntKind.wrap,IntKind.bits,IntKind.signed];omega
   clear hr
   go_wp2
   case roundEnd=>
    refine⟨⟨i+1,r.setIfInBounds i (.int .u8 i),rfl,h1,by rw[Array.size_setIfInBounds,hs],by first|rfl|(rw[hx];exact UL _ _ _ _ _),λt ht=>?_⟩,by simp only[RowKit.intOf];omega⟩;rw[VO o_];by_cases he:t=i
    ·subst he;rw[Qa3 rfl,Qa3 o_]
    ·rw[Qa5 he,hR.out t ht];by_cases h3:t<i
     ·rw[Qa3 h3,Qa3 o_]
     ·rw[Qa5 h3,Qa5 o_]
  ·have hie:i=256:=o_
   subst hie;have hR:Hid (∀ t:Nat,t<256->r[t]? = some (.int .u8 (if t<256 then t else 0))):=hr;clear hr;have d0:=(hcv r 0).trans c0;have d1:=(hcv r 1).trans c1;have d2:=(hcv r 2).trans c2;have d3:=(hcv r 3).trans c3;have q1:((⟨#[93]⟩:ByteArray)[0]'(by decide)).toNat=93:=rfl;have q2:((⟨#[91]⟩:ByteArray)[0]'(by decide)).toNat=91:=rfl;have q3:((⟨#[62]⟩:ByteArray)[0]'(by decide)).toNat=62:=rfl;have q4:((⟨#[60]⟩:ByteArray)[0]'(by decide)).toNat=60:=rfl;have f1:=Q7 w r 429 93;have e1:=GJ w r 429 93;have s1:=UL w r 429 93 (.int .u8 62);have f2:=Q7 w (r.setIfInBounds 93 (.int .u8 62)) 429 91;have e2:=GJ w (r.setIfInBounds 93 (.int .u8 62)) 429 91;have s2:=UL w (r.setIfInBounds 93 (.int .u8 62)) 429 91 (.int .u8 60);rw[hR.out 93 o_,Qa3 o_] at e1;rw[VO o_,Qa5 o_,hR.out 91 o_,Qa3 o_] at e2;have g0:=(hcv (r.setIfInBounds 93 (.int .u8 62)) 0).trans c0;have g1:=(hcv (r.setIfInBounds 93 (.int .u8 62)) 1).trans c1
   go_wp2
   refine wp_loop_rounds 3 ?_;repeat any_goals (rw[rounds_succ];go_wp2)
   refine bodyPost_ret (results_tmp rfl _ _ _) rfl ?_;refine⟨rfl,_,rfl,by rw[Array.size_setIfInBounds,Array.size_setIfInBounds,hs],λt ht=>?_⟩;rw[VO (by rw[Array.size_setIfInBounds];omega),VO o_,hR.out t ht,Qa3 ht];by_cases h9:t=91
   ·rw[Qa3 h9,Qa3 h9]
   ·rw[Qa5 h9,Qa5 h9];by_cases h3:t=93
    ·rw[Qa3 h3,Qa3 h3]
    ·rw[Qa5 h3,Qa5 h3]
open Go.RowKit Go.Lib Go.Sort in
def mrow (r:Array Value):Prop:=r.size=256/\∀ t:Nat,t<256->r[t]? = some (.int .u8 (if t=91 then 60 else if t=93 then 62 else t))
open Go.RowKit in
structure MRep (w:World) (b c cap:Nat):Prop where
 v0:w.cell? ⟨b,0,none⟩=some (.int .u32 0)
 v1:w.cell? ⟨b,1,none⟩=some (.int .i32 0)
 v3:w.cell? ⟨b,3,none⟩=some .nilIface
 v4:w.cell? ⟨b,4,none⟩=some (.slice (some ⟨c,0,none⟩) 4 cap)
 f0:w.frozen? ⟨b,0,none⟩=false
 f1:w.frozen? ⟨b,1,none⟩=false
 f3:w.frozen? ⟨b,3,none⟩=false
 f4:w.frozen? ⟨b,4,none⟩=false
 c0:w.cell? ⟨c,0,none⟩=some (.string ⟨#[91]⟩)
 c1:w.cell? ⟨c,1,none⟩=some (.string ⟨#[60]⟩)
 c2:w.cell? ⟨c,2,none⟩=some (.string ⟨#[93]⟩)
 c3:w.cell? ⟨c,3,none⟩=some (.string ⟨#[62]⟩)
 lb:b<w.heap.size
 lc:c<w.heap.size
 ne:¬ c=b
open Go.RowKit Go.Lib Go.Sort in
def AhF (b c cap:Nat) (w:World) (h3:∃ x,w.cell? ⟨b,3,none⟩=some x) (h4:w.cell? ⟨b,4,none⟩=some (.slice (some ⟨c,0,none⟩) 4 cap)) (f3:w.frozen? ⟨b,3,none⟩=false) (f4:w.frozen? ⟨b,4,none⟩=false) (c0:w.cell? ⟨c,0,none⟩=some (.string ⟨#[91]⟩)) (c1:w.cell? ⟨c,1,none⟩=some (.string ⟨#[60]⟩)) (c2:w.cell? ⟨c,2,none⟩=some (.string ⟨#[93]⟩)) (c3:w.cell? ⟨c,3,none⟩=some (.string ⟨#[62]⟩)) (hbw:b<w.heap.size) (hcw:c<w.heap.size) :
 Calls Tryz.prog 458 #[.pointer (some ⟨b,0,none⟩)] w λe w'=>e=.returned (.tuple #[])/\∃ r:Array Value,w'=((w.setCell ⟨b,3,none⟩ (.iface 430 (.pointer (some ⟨w.heap.size,0,none⟩)))).setCell ⟨b,4,none⟩ (.slice none 0 0)).alloc (.cells r 429)/\mrow r:=by
 obtain⟨x,h3⟩:=h3;have k3:∀ r,(w.alloc (.cells r 429)).cell? ⟨b,3,none⟩=some x:=λr=>by rw[World.cell?_alloc_past _ _ _ hbw];exact h3
 have k4:∀ r,(w.alloc (.cells r 429)).cell? ⟨b,4,none⟩=some (.slice (some ⟨c,0,none⟩) 4 cap):=λr=>by rw[World.cell?_alloc_past _ _ _ hbw];exact h4
 have g3:∀ r,(w.alloc (.cells r 429)).frozen? ⟨b,3,none⟩=false:=λr=>by rw[World.frozen?_alloc_past _ _ _ hbw];exact f3
 have g4:∀ r,(w.alloc (.cells r 429)).frozen? ⟨b,4,none⟩=false:=λr=>by rw[World.frozen?_alloc_past _ _ _ hbw];exact f4
 go_enter func458,Tryz.ntmps458
 go_wp2_with (go_at_call 467;refine(Afp b c cap w h4 c0 c1 c2 c3 hbw hcw).mono ?_;rintro e w' ⟨rfl,r,rfl,hr⟩)
 go_wp2
 try go_end0
 exact⟨rfl,r,rfl,hr⟩
open Go.RowKit Go.Lib Go.Sort in
def mW (w:World) (b:Nat) (r:Array Value):World:=(((((w.setCell ⟨b,1,none⟩ (.int .i32 1)).setCell ⟨b,3,none⟩ (.iface 430 (.pointer (some ⟨w.heap.size,0,none⟩)))).setCell ⟨b,4,none⟩ (.slice none 0 0)).alloc (.cells r 429)).drew.setCell ⟨b,0,none⟩ (.int .u32 1)).setCell ⟨b,1,none⟩ (.int .i32 0)
open Go.RowKit Go.Lib Go.Sort in
def Ahp (b c cap:Nat) (w:World) (H:MRep w b c cap) :
 Calls Tryz.prog 466 #[.pointer (some ⟨b,0,none⟩),.func (.func 458) #[.pointer (some ⟨b,0,none⟩)] #[]] w λe w'=>e=.returned (.tuple #[])/\∃ r:Array Value,mrow r/\w'=mW w b r:=by
 obtain⟨v0,v1,v3,v4,f0,f1,f3,f4,c0,c1,c2,c3,lb,lc,ne⟩:=H;have oth:∀ (a:Addr) (v:Value) (d:Addr),d≠a->(w.setCell a v).cell? d=w.cell? d:=λa v d h=>World.cell?_setCell_other _ a d v (λe=>h e.symm)
 have n1:∀ j:Nat,(⟨c,j,none⟩:Addr)≠⟨b,1,none⟩:=λj h=>ne (Qg5 Addr.block h)
 have hl:=run_call_load (P:=Tryz.prog) func477 k_ k_ k_ .u32 k_ (w:=w.setCell ⟨b,1,none⟩ (.int .i32 1)) (a:=⟨b,0,none⟩) (x:=0) ((oth _ _ _ (by simp)).trans v0);have hnot:∀ (x:Bool) (w:World),(Op.unary .not (.bool x)).run Tryz.prog w=.ok (.bool (!x)) w:=λ_ _=>rfl
 go_enter_defers func466,Tryz.ntmps466
 have o1:∀ d:Addr,d≠⟨b,1,none⟩->(w.setCell ⟨b,1,none⟩ (.int .i32 1)).cell? d=w.cell? d:=λd h=>oth _ _ d h
 have fz:∀ (v:Value) (d:Addr),(w.setCell ⟨b,1,none⟩ v).frozen? d=w.frozen? d:=λv d=>World.frozen?_setCell _ _ _ _
 go_wp2_with (first
  | (go_at_call 478;refine(AgL ⟨b,1,none⟩ _ (by go_simp) (by go_simp)).mono ?_;rintro e w' ⟨rfl,rfl⟩)
  | (go_at_call 465;go_in))
 refine(AhF b c cap (w.setCell ⟨b,1,none⟩ (.int .i32 1)) ⟨_,(o1 _ (by simp)).trans v3⟩ ((o1 _ (by simp)).trans v4) ((fz _ _).trans f3) ((fz _ _).trans f4) ((o1 _ (n1 0)).trans c0) ((o1 _ (n1 1)).trans c1) ((o1 _ (n1 2)).trans c2) ((o1 _ (n1 3)).trans c3) (by rw[World.size_setCell];exact lb) (by rw[World.size_setCell];exact lc)).mono ?_;rintro e w' ⟨rfl,r,rfl,hr⟩
 go_wp2
 refine leaves_cons (f:=480) (args := #[.pointer (some ⟨b,0,none⟩),.bool true]) (by simp) (by simp[go_sem]) ?_;refine(AeX ⟨b,0,none⟩ (.int .u32 0) .returning _ ?_ (by rw[World.frozen?_alloc_past _ _ _ (by simpa using lb),World.frozen?_setCell,World.frozen?_setCell,World.frozen?_setCell];exact f0)).mono ?_
 ·rw[World.cell?_alloc_past _ _ _ (by simpa using lb),World.cell?_setCell_other _ _ _ _ (by simp),World.cell?_setCell_other _ _ _ _ (by simp),World.cell?_setCell_other _ _ _ _ (by simp)];exact v0
 rintro e u' w'' ⟨rfl,rfl,rfl⟩;refine leaves_cons (f:=479) (args := #[.pointer (some ⟨b,1,none⟩)]) (by simp[settle]) (by simp[go_sem]) ?_;refine(Ab7 ⟨b,1,none⟩ _ _ ?_ (by rw[World.frozen?_setCell,World.frozen?_drew,World.frozen?_alloc_past _ _ _ (by simpa using lb),World.frozen?_setCell,World.frozen?_setCell,World.frozen?_setCell];exact f1)).mono ?_
 ·rw[World.cell?_setCell_other _ _ _ _ (by simp),World.cell?_drew,World.cell?_alloc_past _ _ _ (by simpa using lb),World.cell?_setCell_other _ _ _ _ (by simp),World.cell?_setCell_other _ _ _ _ (by simp)];exact World.cell?_setCell_same w _ _ v1
 rintro e u' w'' ⟨rfl,rfl,rfl⟩;simp[Leaves,settle,results,Tryz.results466];exact⟨r,hr,rfl⟩
open Go.RowKit Go.Lib Go.Sort in
def AgA (x:UInt8):((mk8 x).toNat:Int)=(if x.toNat=91 then(60:Int) else if x.toNat=93 then 62 else(x.toNat:Int)):=by
 unfold mk8;by_cases h:x=91
 ·subst h;rfl
 ·have h':¬ x.toNat=91:=λe=>h (UInt8.toNat_inj.1 e)
  rw[Qa5 h,Qa5 h'];by_cases h2:x=93
  ·subst h2;rfl
  ·have h3:¬ x.toNat=93:=λe=>h2 (UInt8.toNat_inj.1 e)
   rw[Qa5 h2,Qa5 h3]
open Go.RowKit Go.Lib Go.Sort in
def Aim (k:Nat) (s:ByteArray) (hs1:s.size<=1000000000000) (w:World) (hkw:k<w.heap.size) (hk:∀ x:UInt8,w.cell? ⟨k,x.toNat,none⟩=some (.int .u8 (mk8 x).toNat)) :
 Calls Tryz.prog 538 #[.pointer (some ⟨k,0,none⟩),.string s] w λe w'=>e=.returned (.string (markup s))/\(w'=w\/∃ dk,dk.size=s.data.size/\w'=putRow enc8 (bytesWorld w 5 s) w.heap.size 0 dk):=by
 have hcv:=λ(w:World)=>Lib.run_convert_string_bytes w 9 22 5 s Tryz.underlying9 Tryz.underlying22 Tryz.underlying5
 have hH:=N1 w 5 s;have hsz:s.data.size=s.size:=rfl;have qT:∀ (w:World) (a:Option Addr) (n c n' c':Nat),(binOp .eql 22 (.slice a n c) (.slice none n' c')).run Tryz.prog w=.ok (.bool a.isNone) w:=λw a n c n' c'=>Lib.run_eql_slice_nil w _ _ a n c n' c' Tryz.underlying22
 go_enter func538,Tryz.ntmps538
 go_wp2
 have hk1:∀ x:UInt8,(bytesWorld w 5 s).cell? ⟨k,x.toNat,none⟩=some (.int .u8 (mk8 x).toNat):=λx=>by rw[<-hk x];simp only[World.cell?,bytesWorld_at_old w 5 s k hkw]
 generalize hW1:bytesWorld w 5 s=W1 at *
 go_loopw [5,6] (λv5 vi wr=>∃ (i:Nat),vi=.int .i64 i/\i<=s.size/\((v5=.slice none 0 0/\wr=w/\∀ t,t<i->s.data[t]! = mk8 s.data[t]!) \/
  (∃ dk:Array UInt8,v5=.slice (some ⟨w.heap.size,0,none⟩) s.size (grownCap w s.size 0 5)/\dk.size=s.data.size/\wr=putRow enc8 W1 w.heap.size 0 dk/\∀ t,t<s.size->dk[t]! = if t<i then mk8 s.data[t]! else s.data[t]!))) (λ_ vi _=>s.size+1-(RowKit.intOf vi).toNat)
 case atStart=>exact⟨0,rfl,o_,.inl ⟨rfl,rfl,λt ht=>o_⟩⟩
 case round=>
  obtain⟨i,rfl,hi,hrel⟩:=hrel;by_cases h1:i<s.size
  ·have hxi:s.data[i]! = s[i]'h1:=by rw[getElem!_pos s.data i h1];rfl
   have hlt:=(s[i]'h1).toNat_lt;rcases hrel with⟨rfl,rfl,hd⟩|⟨dk,rfl,hsk,hw,hd⟩
   ·by_cases hm:mk8 (s[i]'h1)=s[i]'h1
    ·have hne:(((mk8 (s[i]'h1)).toNat:Int) != ((s[i]'h1).toNat:Int))=false:=by rw[hm];simp
     have hD:Hid (∀ t,t<i->s.data[t]! = mk8 s.data[t]!):=hd;clear hd
     go_wp2
     case roundEnd=>
      exact⟨⟨i+1,rfl,h1,.inl ⟨by first|rfl|trivial,by first|rfl|trivial,λt ht=>by
       by_cases e:t=i
       ·subst e;rw[hxi,hm]
       ·exact hD.out t o_⟩⟩,by simp only[RowKit.intOf];omega⟩
     all_goals (exfalso;omega)
    ·have hne:(((mk8 (s[i]'h1)).toNat:Int) != ((s[i]'h1).toNat:Int))=true:=by rw[bne_iff_ne];intro e;exact hm (UInt8.toNat_inj.1 (Int.ofNat.inj e))
     have hfz:=(hH i h1).2;have hcd:=(hH i h1).1;rw[Qe0] at hfz hcd;have hst:=putRow_set enc8 W1 wr.heap.size 0 s.data i (mk8 (s[i]'h1)) h1;rw[Qe0,putRow_self _ _ _ _ _ hH] at hst;dsimp only[enc8] at hcd hst;have hD:Hid (∀ t,t<i->s.data[t]! = mk8 s.data[t]!):=hd;have hS:Hid (_=_):=hst;clear hd hst hH
     go_wp2
     case roundEnd=>
      have st:=Kd (s:=s) (dk:=s.data) (y:=mk8 (s[i]'h1)) h1 rfl (λt ht=>by
       by_cases e:t<i
       ·rw[Qa3 e];exact hD.out t e
       ·rw[Qa5 e]) (by rw[hxi])
      exact⟨⟨i+1,rfl,h1,.inr ⟨s.data.setIfInBounds i (mk8 (s[i]'h1)),by first|rfl|trivial,st.1,hS.out,st.2⟩⟩,by simp only[RowKit.intOf];omega⟩
     all_goals (exfalso;omega)
   ·have hkr:∀ x:UInt8,wr.cell? ⟨k,x.toNat,none⟩=some (.int .u8 (mk8 x).toNat):=λx=>by rw[hw,cell?_putRow_other _ _ _ _ _ _ (.inl (by show k≠w.heap.size;omega))];exact hk1 x
    have hD:Hid (∀ t,t<s.size->dk[t]! = if t<i then mk8 s.data[t]! else s.data[t]!):=hd;have hW:Hid (wr=putRow enc8 W1 w.heap.size 0 dk):=hw;by_cases hm:mk8 (s[i]'h1)=s[i]'h1
    ·have hne:(((mk8 (s[i]'h1)).toNat:Int) != ((s[i]'h1).toNat:Int))=false:=by rw[hm];simp
     clear hd hw hH
     go_wp2
     case roundEnd=>
      exact⟨⟨i+1,rfl,h1,.inr ⟨dk,by first|rfl|trivial,hsk,hW.out,Vx h1 hsk hD.out (by rw[hxi,hm])⟩⟩,by simp only[RowKit.intOf];omega⟩
     all_goals (exfalso;omega)
    ·have hne:(((mk8 (s[i]'h1)).toNat:Int) != ((s[i]'h1).toNat:Int))=true:=by rw[bne_iff_ne];intro e;exact hm (UInt8.toNat_inj.1 (Int.ofNat.inj e))
     have hcd:=cell?_putRow enc8 W1 w.heap.size 0 s.data dk hH hsk i o_;have hfz:wr.frozen? ⟨w.heap.size,0+i,none⟩=false:=by rw[hw,frozen?_putRow];exact(hH i o_).2
     rw[<-hw,Qe0] at hcd;rw[Qe0] at hfz;have hst:=putRow_set enc8 W1 w.heap.size 0 dk i (mk8 (s[i]'h1)) o_;rw[Qe0] at hst;dsimp only[enc8] at hcd hst;have hS:Hid (_=_):=hst;clear hd hw hst hH
     go_wp2
     case roundEnd=>
      have st:=Kd (s:=s) (dk:=dk) (y:=mk8 (s[i]'h1)) h1 hsk hD.out (by rw[hxi]);exact⟨⟨i+1,rfl,h1,.inr ⟨dk.setIfInBounds i (mk8 (s[i]'h1)),by first|rfl|trivial,st.1,by rw[hW.out];exact hS.out,st.2⟩⟩,by simp only[RowKit.intOf];omega⟩
     all_goals (exfalso;omega)
  ·have hie:i=s.size:=o_
   subst hie;rcases hrel with⟨rfl,rfl,hd⟩|⟨dk,rfl,hsk,hw,hd⟩
   ·have hfin:Hid (markup s=s):=by
     show markup s=s;unfold markup ofL;have:(toL s).map mk8=toL s:=by
      apply List.ext_getElem (by simp);intro k h2 h3;have hk:k<s.size:=by simpa [BD] using h3
      have:=hd k hk;rw[getElem!_pos s.data k hk] at this;simp[toL,<-this]
     rw[this];exact Ct s
    have hD:Hid _:=hd;clear hd
    go_wp2
    go_ret
    exact⟨by simp[hfin.out],.inl rfl⟩
   ·have hback:=run_convert_bytes_back (P:=Tryz.prog) wr 22 9 5 ⟨w.heap.size,0,none⟩ (grownCap w s.size 0 5) dk.toList Tryz.underlying22 Tryz.underlying5 Tryz.underlying9 (λj hj=>by
     have hj2:j<dk.size:=by simpa using hj
     have:=cell?_putRow enc8 W1 w.heap.size 0 s.data dk hH hsk j hj2;rw[<-hw] at this;rw[Addr.add_lit,this];simp[getElem!_pos dk j hj2])
    have hl:dk.toList.length=s.size:=by simpa using hsk
    rw[hl,hw] at hback;have hfin:markup s=⟨dk.toList.toArray⟩:=by
     unfold markup ofL;congr 2;apply List.ext_getElem (by simp[BD,hl]);intro k h2 h3;have hk:k<s.size:=o_
     have:=hd k hk;rw[Qa3 hk,getElem!_pos dk k o_,getElem!_pos s.data k hk] at this;simp[toL,this]
    have hfin:Hid _:=hfin;have hw:Hid _:=hw
    go_wp2
    go_ret
    exact⟨by rw[hfin.out];simp,.inr ⟨dk,hsk,by rw[hW1];first|done|exact hw.out⟩⟩
open Go.RowKit Go.Lib Go.Sort in
def Ans (b c cap:Nat) (w:World) (H:MRep w b c cap) :
 Calls Tryz.prog 457 #[.pointer (some ⟨b,0,none⟩),.func (.func 458) #[.pointer (some ⟨b,0,none⟩)] #[]] w λe w'=>e=.returned (.tuple #[])/\∃ r:Array Value,mrow r/\w'=mW w b r:=by
 have h0:=H.v0;have hl:=run_call_load (P:=Tryz.prog) func477 k_ k_ k_ .u32 k_ h0;have hnot:∀ (x:Bool) (w:World),(Op.unary .not (.bool x)).run Tryz.prog w=.ok (.bool (!x)) w:=λ_ _=>rfl
 go_enter func457,Tryz.ntmps457
 go_wp2_with (first|(go_at_call 466;refine(Ahp b c cap _ H).mono ?_;rintro e w' ⟨rfl,r,hr,rfl⟩)|(go_at_call 465;go_in))
 try go_end0
 exact⟨rfl,r,hr,rfl⟩
open Go.RowKit Go.Lib Go.Sort in
def Agz (w:World) (b:Nat) (r:Array Value) (lb:b<w.heap.size) (x:Value) (v3:w.cell? ⟨b,3,none⟩=some x):(mW w b r).cell? ⟨b,3,none⟩=some (.iface 430 (.pointer (some ⟨w.heap.size,0,none⟩))):=by
 unfold mW;rw[World.cell?_setCell_other _ _ _ _ (by simp),World.cell?_setCell_other _ _ _ _ (by simp),World.cell?_drew,World.cell?_alloc_past _ _ _ (by simpa using lb),World.cell?_setCell_other _ _ _ _ (by simp)];exact World.cell?_setCell_same _ _ _ ((World.cell?_setCell_other _ _ _ _ (by simp)).trans v3)
open Go.RowKit Go.Lib Go.Sort in
def AgR (w:World) (b:Nat) (r:Array Value) (lb:b<w.heap.size) (t:Nat):(mW w b r).cell? ⟨w.heap.size,t,none⟩=r[t]?:=by
 have nb:∀ j:Nat,(⟨b,j,none⟩:Addr)≠⟨w.heap.size,t,none⟩:=λj h=>by have:=Qg5 Addr.block h;simp at this;omega
 unfold mW;rw[World.cell?_setCell_other _ _ _ _ (nb _),World.cell?_setCell_other _ _ _ _ (nb _),World.cell?_drew];have e:=GJ (((w.setCell ⟨b,1,none⟩ (.int .i32 1)).setCell ⟨b,3,none⟩ (.iface 430 (.pointer (some ⟨w.heap.size,0,none⟩)))).setCell ⟨b,4,none⟩ (.slice none 0 0)) r 429 t;rw[World.size_setCell,World.size_setCell,World.size_setCell] at e;exact e
open Go.RowKit Go.Lib Go.Sort in
def Yw (w:World) (b:Nat) (r:Array Value):(mW w b r).heap.size=w.heap.size+1:=by
 unfold mW;simp
open Go.RowKit Go.Lib Go.Sort in
def Zv (b c cap:Nat) (s:ByteArray) (hs:s.size<=1000000000000) (w:World) (H:MRep w b c cap) :
 Calls Tryz.prog 454 #[.pointer (some ⟨b,0,none⟩),.string s] w λe w'=>e=.returned (.string (markup s))/\∃ r,mrow r/\(w'=mW w b r\/∃ dk,w'=Go.Sort.putRow enc8 (Lib.bytesWorld (mW w b r) 5 s) (mW w b r).heap.size 0 dk):=by
 have hmf:∀ (fn:Fn) (first cap:Array Value) (w:World),(Instr.makeFunc fn first cap).run Tryz.prog w=.ok (.func fn first cap) w:=λ_ _ _ _=>rfl
 have H':Hid (MRep w b c cap):=H;clear H
 go_enter func454,Tryz.ntmps454
 go_wp2_with (first|(go_at_call 457;refine(Ans b c cap _ H'.out).mono ?_;rintro e w' ⟨rfl,r,hr,hw⟩;(have h3:w'.cell? ⟨b,3,none⟩=some (.iface 430 (.pointer (some ⟨w.heap.size,0,none⟩))):=by rw[hw];exact Agz w b r H'.out.lb _ H'.out.v3);(have hW:Hid (w'=mW w b r):=hw);(have hR:Hid (mrow r):=hr);clear hw hr))
 refine(Aim w.heap.size s hs w' (by rw[hW.out,Yw];omega) (λx=>by rw[hW.out,AgR _ _ _ H'.out.lb,hR.out.2 _ x.toNat_lt,AgA])).mono ?_;rintro e w'' ⟨rfl,h⟩;have hh:Hid (w''=w'\/∃ dk,dk.size=s.data.size/\w''=Go.Sort.putRow enc8 (Lib.bytesWorld w' 5 s) w'.heap.size 0 dk):=h;clear h
 go_wp2
 go_ret
 refine⟨rfl,r,hR.out,?_⟩;rcases hh.out with h|⟨dk,_,h⟩
 ·exact .inl (h.trans hW.out)
 ·exact .inr ⟨dk,by rw[h,hW.out]⟩
open Go.RowKit Go.Lib Go.Sort in
def mN (w:World) (cap:Nat) (x:Array Value):World :=
 ((w.alloc (.cells (#[.string ⟨#[91]⟩,.string ⟨#[60]⟩,.string ⟨#[93]⟩,.string ⟨#[62]⟩]++x) 9)).alloc (.cells #[.int .u32 0,.int .i32 0,.int .u32 0,.nilIface,.slice (some ⟨w.heap.size,0,none⟩) 4 cap] 402)).drew
open Go.RowKit Go.Lib Go.Sort in
def Ah9 (a cap:Nat) (w:World) (c0:w.cell? ⟨a,0,none⟩=some (.string ⟨#[91]⟩)) (c1:w.cell? ⟨a,1,none⟩=some (.string ⟨#[60]⟩)) (c2:w.cell? ⟨a,2,none⟩=some (.string ⟨#[93]⟩)) (c3:w.cell? ⟨a,3,none⟩=some (.string ⟨#[62]⟩)) (la:a<w.heap.size) :
 Calls Tryz.prog 453 #[.slice (some ⟨a,0,none⟩) 4 cap] w λe w'=>e=.returned (.pointer (some ⟨w.heap.size+1,0,none⟩))/\∃ cap2 x,w'=mN w cap2 x:=by
 go_enter func453,Tryz.ntmps453
 go_wp2
 go_ret
 exact⟨rfl,_,_,rfl⟩
open Go.RowKit Go.Lib Go.Sort in
def AbD (w:World) (cap:Nat) (x:Array Value):(mN w cap x).heap.size=w.heap.size+2:=by unfold mN;simp
open Go.RowKit Go.Lib Go.Sort in
def AhO (w:World) (cap:Nat) (x:Array Value):MRep (mN w cap x) (w.heap.size+1) w.heap.size cap:=by
 have hb:∀ j,(mN w cap x).cell? ⟨w.heap.size+1,j,none⟩ = #[Value.int .u32 0,.int .i32 0,.int .u32 0,.nilIface,.slice (some ⟨w.heap.size,0,none⟩) 4 cap][j]?:=λj=>by unfold mN;rw[World.cell?_drew];have e:=GJ (w.alloc (.cells (#[.string ⟨#[91]⟩,.string ⟨#[60]⟩,.string ⟨#[93]⟩,.string ⟨#[62]⟩]++x) 9)) #[.int .u32 0,.int .i32 0,.int .u32 0,.nilIface,.slice (some ⟨w.heap.size,0,none⟩) 4 cap] 402 j;rw[World.size_alloc] at e;exact e
 have hf:∀ j,(mN w cap x).frozen? ⟨w.heap.size+1,j,none⟩=false:=λj=>by unfold mN;rw[World.frozen?_drew];have e:=Q7 (w.alloc (.cells (#[.string ⟨#[91]⟩,.string ⟨#[60]⟩,.string ⟨#[93]⟩,.string ⟨#[62]⟩]++x) 9)) #[.int .u32 0,.int .i32 0,.int .u32 0,.nilIface,.slice (some ⟨w.heap.size,0,none⟩) 4 cap] 402 j;rw[World.size_alloc] at e;exact e
 have hc:∀ j,(mN w cap x).cell? ⟨w.heap.size,j,none⟩=(#[.string ⟨#[91]⟩,.string ⟨#[60]⟩,.string ⟨#[93]⟩,.string ⟨#[62]⟩]++x)[j]?:=λj=>by unfold mN;rw[World.cell?_drew,World.cell?_alloc_past _ _ _ (by rw[World.size_alloc];omega)];exact GJ _ _ _ _
 have hl:∀ j (v:Value),#[Value.string ⟨#[91]⟩,.string ⟨#[60]⟩,.string ⟨#[93]⟩,.string ⟨#[62]⟩][j]? = some v->(#[Value.string ⟨#[91]⟩,.string ⟨#[60]⟩,.string ⟨#[93]⟩,.string ⟨#[62]⟩]++x)[j]? = some v:=λj v h=>by rw[Array.getElem?_append_left (by have:=(Array.getElem?_eq_some_iff.1 h).1;exact this)];exact h
 exact⟨hb 0,hb 1,hb 3,hb 4,hf 0,hf 1,hf 3,hf 4,(hc 0).trans (hl 0 _ rfl),(hc 1).trans (hl 1 _ rfl),(hc 2).trans (hl 2 _ rfl),(hc 3).trans (hl 3 _ rfl),by rw[AbD];omega,by rw[AbD];omega,o_⟩
open Go.RowKit Go.Lib Go.Sort in
def Ahi {w w':World} (h:Neu w w') (cap:Nat) (x:Array Value):Neu w (mN w' cap x):=by
 unfold mN;exact((h.alloc _).alloc _).drew
open Go.RowKit Go.Lib Go.Sort in
def AeE {w w':World} (h:Neu w w') {b:Nat} (hb:w.heap.size<=b) (r:Array Value):Neu w (mW w' b r):=by
 unfold mW;exact((((((h.set (a:=⟨b,1,none⟩) hb _).set (a:=⟨b,3,none⟩) hb _).set (a:=⟨b,4,none⟩) hb _).alloc _).drew).set (a:=⟨b,0,none⟩) hb _).set (a:=⟨b,1,none⟩) hb _
open Go.RowKit Go.Lib Go.Sort in
def Ac9 (s:ByteArray) (hs:s.size<=1000000000000) (w:World) :
 Calls Tryz.prog 439 #[.string s] w λe w'=>e=.returned (.string (markup s))/\Neu w w':=by
 go_enter func439,Tryz.ntmps439
 go_wp2_with (fail)
 refine(Ah9 w.heap.size 4 _ ?_ ?_ ?_ ?_ ?_).mono ?_
 ·rw[GJ];rfl
 ·rw[GJ];rfl
 ·rw[GJ];rfl
 ·rw[GJ];rfl
 ·rw[World.size_alloc];omega
 rintro e w' ⟨rfl,cap,x,hw⟩;have hW:Hid _:=hw;have hR:Hid (MRep w' (w.heap.size+2) (w.heap.size+1) cap):=by have:=AhO (w.alloc (Obj.cells #[.string ⟨#[91]⟩,.string ⟨#[60]⟩,.string ⟨#[93]⟩,.string ⟨#[62]⟩] 9)) cap x;rw[World.size_alloc] at this;rw[hw];exact this
 have hN:Hid (Neu w w'):=by rw[hw];exact Ahi ((Neu.refl w).alloc _) _ _
 clear hw hW;rw[World.size_alloc]
 go_wp2_with (first|(go_at_call 454;refine(Zv _ _ cap s hs w' hR.out).mono ?_;rintro e w2 ⟨rfl,h⟩;(have hH:Hid _:=h);clear h))
 go_ret
 refine⟨rfl,?_⟩;obtain⟨r,_,h|⟨dk,h⟩⟩:=hH.out
 ·rw[h];exact AeE hN.out o_ _
 ·rw[h];exact((AeE hN.out o_ _).bytes _ _).put _ (by rw[Yw];have:=hN.out.size;omega) _ _
open Go.RowKit Go.Lib Go.Sort in
def W9:NL.ok Tryz.prog 439 :=
 Ve rfl rfl λx hx w ow hB=>Ac9 x.1 hx w
def Anr:=Ank.a NL<|W9
def RE:Go.Proofs.LaysC.n172 Tryz.prog laysCmp_r:=by repeat' first|kernel_rfl|constructor|intro _
def nB (n:Lib.NumEnd Nat) (f:Nat->Lib.NumEnd Nat):Lib.NumEnd Nat:=match n with
 | .ok u=>f u
 | e=>e
def Aep:∀ (l r:List UInt8) (acc:Nat),Lib.parseUint10 acc (l++r)=nB (Lib.parseUint10 acc l) λu=>Lib.parseUint10 u r
 | [],r,acc=>rfl
 | c::l,r,acc=>by
  rw[Qe5,Lib.parseUint10,Lib.parseUint10];split
  ·split
   ·rfl
   ·split
    ·rfl
    ·exact Aep l r _
  ·rfl
def Tm {d:Nat} (h:d<10):(UInt8.ofNat (48+d)).toNat=48+d:=by
 rw[UInt8.toNat_ofNat'];omega
def Aih:∀ (f u:Nat),u<10 ^ (f+1)->u<10 ^ 18->(Lib.decDigits u)≠[]/\(Lib.decDigits u).length<=f+1/\(Lib.decDigits u).all digit=true/\decV (Lib.decDigits u) 0=u/\Lib.parseUint10 0 (Lib.decDigits u)=.ok u:=by
 have one:∀ d,d<10->[UInt8.ofNat (48+d)].all digit=true:=λd hd=>by simp only[List.all_cons,List.all_nil,Bool.and_true,digit,Tm hd,Qa8];omega
 have low:∀ u,u<10->(Lib.decDigits u)≠[]/\(Lib.decDigits u).length<=1/\(Lib.decDigits u).all digit=true/\decV (Lib.decDigits u) 0=u/\Lib.parseUint10 0 (Lib.decDigits u)=.ok u:=λu hu=>by
  rw[F3 hu];refine⟨by simp,by simp,one u hu,?_,?_⟩
  ·simp only[decV,Tm hu];omega
  ·rw[Lib.parseUint10,Tm hu,Qa3 o_,Qa5 o_,Qa5 o_];simp[Lib.parseUint10]
 intro f
 induction f with
 | zero=>intro u hu _;exact low u o_
 | succ f ih=>
  intro u hu hv;by_cases h1:u<10
  ·obtain⟨a,b,c⟩:=low u h1;exact⟨a,o_,c⟩
  ·obtain⟨a,b,c,d,e⟩:=ih (u / 10) (by rw[Nat.pow_succ] at hu;omega) o_;rw[Ia o_];refine⟨by simp,by simp;omega,?_,?_,?_⟩
   ·rw[List.all_append,c,one _ o_];rfl
   ·rw[N8,d,Tm o_];omega
   ·rw[Aep,e,nB];simp only[Lib.parseUint10];rw[Tm o_,Qa3 o_,Qa5 o_,Qa5 o_];simp only[Lib.NumEnd.ok.injEq];omega
def Rj {n:Int} (h0:0<=n) (h1:n<=1000000000000):(1<=(Kh n).size/\(Kh n).size<=13/\(toL (Kh n)).all digit=true/\decV (toL (Kh n)) 0=n)/\Lib.atoiAll (toL (Kh n))=.ok n:=by
 have e:toL (Kh n)=Lib.decDigits n.toNat:=by unfold toL Kh Lib.itoa;rw[Qa5 o_]
 have es:(Kh n).size=(toL (Kh n)).length:=rfl;obtain⟨a,b,c,d,g⟩:=Aih 12 n.toNat o_ o_;rw[es,e];refine⟨⟨by have:=List.length_pos_iff.2 a;omega,b,c,by rw[d];omega⟩,?_⟩;cases hl:Lib.decDigits n.toNat with
 | nil=>exact absurd hl a
 | cons x r=>
  rw[hl] at c g;have hx:digit x=true:=by simp only[List.all_cons,Qa2] at c;exact c.1
  simp only[digit,Qa8] at hx;rw[Lib.atoiAll_plain x r o_ o_];unfold Lib.parseMag;rw[Qa5 (by simp),g];unfold Lib.signless;simp only[];rw[Qa5 o_];simp only[Lib.NumEnd.ok.injEq];omega
def Uh:∀ (l:List UInt8) (n:Int),0<=n->l.all digit=true->0<=decV l n
 | [],n,h,_=>h
 | x::l,n,h,ha=>by simp only[List.all_cons,Qa2,digit,Qa8] at ha;exact Uh l _ o_ ha.2
def AfJ {s:ByteArray} {v:Int} (h:Lib.atoiAll (toL s)=.ok v):parseInt s=if 0<=v/\v<=1000000000000/\Kh v=s then(v,true) else(0,false):=by
 by_cases hc:0<=v/\v<=1000000000000/\Kh v=s
 ·obtain⟨⟨a1,a2,a3,a4⟩,_⟩:=Rj hc.1 hc.2.1;rw[hc.2.2] at a1 a2 a3 a4;rw[Qa3 hc];unfold parseInt;rw[Qa3 ⟨a1,a2,a3,by rw[a4];exact hc.2.1,by rw[a4];exact hc.2.2⟩,a4]
 ·rw[Qa5 hc];unfold parseInt;rw[Qa5];rintro⟨b1,b2,b3,b4,b5⟩;have hn:=Uh (toL s) 0 o_ b3;have:=(Rj hn b4).2;rw[b5,h] at this;injection this with this
  rw[<-this] at hn b4 b5;exact hc ⟨hn,b4,b5⟩
def Ahm {s:ByteArray} (h:∀ v,Lib.atoiAll (toL s)≠.ok v):parseInt s=(0,false):=by
 unfold parseInt;rw[Qa5];rintro⟨b1,b2,b3,b4,b5⟩;have:=(Rj (Uh (toL s) 0 o_ b3) b4).2;rw[b5] at this;exact h _ this
open Go.RowKit in
def Adt (n:Int) (h0 : -9223372036854775808<=n) (h1:n<=9223372036854775807) (w:World) (hl:Laid Tryz.prog w):Calls Tryz.prog 384 #[.int .i64 n] w λe w'=>e=.returned (.string (Kh n))/\Neu w w':=by
 go_enter func384,Tryz.ntmps384
 go_wp2_with (fail)
 refine(Go.Proofs.Any.strconv_Itoa VD n h0 h1 w (hl.1 k_)).mono ?_;rintro e w' ⟨rfl,k,os,rfl⟩;have hN:Hid (Neu w (Go.Sort.grow (w.drewN k) os)):=Neu.grow w k os
 go_wp2
 go_ret
 exact⟨rfl,hN.out⟩
open Go.RowKit in
def ZZ (s:ByteArray) (hs:s.size<=1000000000000) (w:World) (hl:Laid Tryz.prog w):Calls Tryz.prog 455 #[.string s] w λe w'=>((∃ v,Lib.atoiAll (toL s)=.ok v/\e=.returned (.tuple #[.int .i64 v,.nilIface]))\/((∀ v,Lib.atoiAll (toL s)≠.ok v)/\∃ n t p,e=.returned (.tuple #[.int .i64 n,.iface t p])))/\Neu w w':=by
 rcases hA:Lib.atoiAll (toL s) with v|_|_
 ·refine(Go.Proofs.Any.strconv_Atoi_ok RE s o_ v hA w).mono ?_;rintro e w' ⟨rfl,h⟩;refine⟨.inl ⟨v,rfl,rfl⟩,?_⟩;rcases h with rfl|⟨t,rfl⟩
  ·exact Neu.refl _
  ·exact(Neu.refl _).bytes _ _
 ·obtain⟨tp,p,hv⟩:=hl.2.1 k_;refine(Go.Proofs.Any.strconv_Atoi_syntax RE s o_ hA (.iface tp p) w (WQ k_ hv) (.inr ⟨_,_,rfl⟩)).mono ?_;rintro e w' ⟨N,rfl,h1,h2,h3⟩;exact⟨.inr ⟨λv=>by simp,_,_,_,rfl⟩,Neu.below h3⟩
 ·obtain⟨tp,p,hv⟩:=hl.2.2 k_;refine(Go.Proofs.Any.strconv_Atoi_range RE s o_ hA (.iface tp p) w (WQ k_ hv) (.inr ⟨_,_,rfl⟩)).mono ?_;rintro e w' ⟨N,rfl,h1,h2,h3⟩;exact⟨.inr ⟨λv=>by simp,_,_,_,rfl⟩,Neu.below h3⟩
open Go.RowKit in
def W8 (s:ByteArray) (hs:s.size<=1000000000000) (w:World) (hl:Laid Tryz.prog w):Calls Tryz.prog 442 #[.string s] w λe w'=>e=.returned (.tuple #[.int .i64 (parseInt s).1,.bool (parseInt s).2])/\Neu w w':=by
 go_enter func442,Tryz.ntmps442
 go_wp2_with (fail)
 refine(ZZ s hs w hl).mono ?_;rintro e w' ⟨⟨v,hA,rfl⟩|⟨hA,n,t,p,rfl⟩,hN⟩
 ·have hb:=Lib.atoiAll_bounds hA;have hp:=AfJ hA;have hN:Hid (Neu w w'):=hN;have hA:Hid (_=_):=hA;by_cases h1:v<0
  ·rw[Qa5 o_] at hp
   go_wp2_with (fail)
   go_ret2
   exact⟨by rw[hp];rfl,hN.out⟩
  ·by_cases h2:v>1000000000000
   ·rw[Qa5 o_] at hp
    go_wp2_with (fail)
    go_ret2
    exact⟨by rw[hp];rfl,hN.out⟩
   ·go_wp2_with (fail)
    refine(Adt v hb.1 hb.2 w' (hN.out.laid hl)).mono ?_;rintro e w2 ⟨rfl,hN2⟩;have hN2:Hid (Neu w' w2):=hN2;by_cases h3:Kh v=s
    ·rw[Qa3 ⟨o_,o_,h3⟩] at hp;rw[h3]
     go_wp2_with (fail)
     go_ret2
     exact⟨by rw[hp];rfl,hN.out.trans hN2.out⟩
    ·rw[Qa5 (by rintro⟨_,_,q⟩;exact h3 q)] at hp;have h4:((Kh v).toList==s.toList)=false:=by rw[AhT];simp[h3]
     go_wp2_with (fail)
     go_ret2
     exact⟨by rw[hp];rfl,hN.out.trans hN2.out⟩
 ·have hp:=Ahm hA;have hN:Hid (Neu w w'):=hN;have hA:Hid (∀ v,Lib.atoiAll (toL s)≠.ok v):=hA
  go_wp2_with (fail)
  go_ret2
  exact⟨by rw[hp];rfl,hN.out⟩
def Ahw:Hv.ok Tryz.prog 442:=Ve rfl rfl λx hx w ow hB=>W8 x.1 hx w hB.laid
def AkO:=Anr.a Hv<|Ahw
def Ann (l:List ByteArray):cut l 1 (l.length-1)=l.drop 1:=by unfold cut;rw[Qb9];simp
def Aiq (s:ByteArray):((cutPre s ⟨#[47]⟩).2=true->0<s.size/\s.data.getD 0 0=47/\(cutPre s ⟨#[47]⟩).1=s.extract 1 s.size)/\((cutPre s ⟨#[47]⟩).2=false->¬ (0<s.size/\s.data.getD 0 0=47)):=by
 have h1:ByteArray.size ⟨#[47]⟩=1:=rfl;have key:hasPre s ⟨#[47]⟩=true↔0<s.size/\s.data.getD 0 0=47:=by
  unfold hasPre;rw[Qa8,h1];constructor
  ·rintro⟨a,b⟩;refine⟨a,?_⟩;have:=Qg5 toL b;rw[Be,Qf1,Nw (i:=0) a,List.take_zero,Qf8] at this;exact(List.cons.inj this).1
  ·rintro⟨a,b⟩;refine⟨a,?_⟩;rw[<-Ct (s.extract 0 1),Be,Qf1,Nw (i:=0) a,List.take_zero,Qf8,b];rfl
 unfold cutPre;by_cases h:hasPre s ⟨#[47]⟩=true
 ·rw[Qa3 h];exact⟨λ_=>⟨(key.1 h).1,(key.1 h).2,rfl⟩,λh2=>(by cases h2)⟩
 ·rw[Qa5 h];exact⟨λh2=>(by cases h2),λ_ h2=>h (key.2 h2)⟩
def AaO {s:ByteArray} (h:s.size<=60) (hn:¬ (0<s.size/\s.data.getD 0 0=47)) (hb:isName ((spl 32 s).getD 0 default)=false\/5<(spl 32 s).length):tagOf s=(default,false):=by
 unfold tagOf;rw[Qa5 o_,Qa5 hn];cases ha:tagAttrs ((spl 32 s).drop 1) [] with
 | none=>rfl
 | some ats=>
  have:=MX ha;simp only[Qb1,Qe3] at this;show(if isName ((spl 32 s).getD 0 default)=true/\ats.length<=4 then _ else _)=_;rw[Qa5];rintro⟨c1,c2⟩;rcases hb with hb|hb
  ·rw[hb] at c1;cases c1
  ·omega
def Ach {l:List ByteArray} {i:Nat} {acc:List St_} (h:i<l.length):tagAttrs (l.drop i) acc=if(Hi 61 (l.getD i default)).2.2=true/\isName (Hi 61 (l.getD i default)).1=true/\isValue (Hi 61 (l.getD i default)).2.1=true/\(findAttr acc (Hi 61 (l.getD i default)).1).isSome=false then tagAttrs (l.drop (i+1)) (acc++[⟨(Hi 61 (l.getD i default)).1,(Hi 61 (l.getD i default)).2.1⟩]) else none:=by
 rw[NO h];unfold Hi;cases G8 61 (toL (l.getD i default)) with
 | none=>simp
 | some r=>
  obtain⟨p,q⟩:=r;simp only[true_and];cases isName (ofL p)<;>cases isValue (ofL q)<;>cases findAttr acc (ofL p)<;>simp
abbrev Gl (s:ByteArray):LInv:=⟨[⟨.b,7,true,.el .token⟩,⟨.s,52,true,.el .int⟩,⟨.b,2,true,.el .token⟩,⟨.s,50,true,.sl .str⟩],λ(z_ x_:Ty92_)=>((0<=x_.2.1/\x_.2.1+1<=(spl 32 s).length/\x_.1.bo.length<=x_.2.1/\x_.1=⟨1,(spl 32 s).getD 0 default,x_.1.bo,⟨#[]⟩⟩/\tagAttrs ((spl 32 s).drop (x_.2.1.toNat+1)) x_.1.bo=tagAttrs ((spl 32 s).drop 1) [])/\x_.2.2.1=z_.2.2.1)/\x_.2.2.2.1=z_.2.2.2.1,λ(x_:Ty92_)=>(spl 32 s).length-x_.2.1.toNat⟩
def Am8:=AkO.a PQ<|Fct.p (KP [0,2,3,4,5,6,7,9,10,11,12,14,50,51,52] [17,24,27,43,53,83]) (λ⟨s,_⟩=>lv [(13,Gl s)]) AkO.2 func207 (by
 rintro⟨(s:ByteArray),_⟩ hp;refine ho (let q2_:=(⟨#[]⟩:ByteArray);let q0_:Out:=.leaf (.tup [(true,[vi ((0:Int)),vs (q2_),.nl,vs (q2_)]),(false,[vb (false)])]) [] [];.br (decide ((s.size:Int)>60)) q0_ (.cl Jz (s,(⟨#[47]⟩:ByteArray),()) λz2=>.br (z2.2.1) (.cl BH (z2.1,()) λz3=>.br (!z3.1) q0_ (.leaf (.tup [(true,[vi ((2:Int)),vs (z2.1),.nl,vs (q2_)]),(false,[vb (true)])]) [] [])) (.cl Hs (s,(⟨#[32]⟩:ByteArray),()) λz4=>let q4_:=(z4.1.length:Int);let q3_:=z4.1.length-1;let q1_:=(0:Int)<=(0:Int)/\(0:Int)<q4_;.ob q1_<|.ob (0<z4.1.length)<|.cl BH (z4.1.getD 0 default,()) λz5=>.br (!z5.1) q0_ (.br (decide (wr (q4_-(1:Int))>4)) q0_ (.ob q1_<|.ob (0<z4.1.length)<|.ob ((0:Int)<=(1:Int)/\(1:Int)<=q4_)<|.ob (1+q3_<=z4.1.length)<|lpx (Gl s) ((⟨(1:Int),z4.1.getD 0 default,[],q2_⟩:Si_),((0:Int),(default,(cut z4.1 1 q3_,())))) λ(y16:Ty92_) bk16=>.br (decide (y16.2.1<(q3_:Int))) (.ix y16.2.1 y16.2.2.2.1.length<|.cl AbQ (y16.2.2.2.1.getD y16.2.1.toNat default,(⟨#[61]⟩:ByteArray),()) λz6=>let q5_:=(⟨z6.1,z6.2.1⟩:St_);.cl Aj (y16.1.bo,z6.1,()) λz7=>.br (!z6.2.2.1) q0_ (.cl BH (z6.1,()) λz8=>.br (!z8.1) q0_ (.cl GK (z6.2.1,()) λz9=>.br (!z9.1) q0_ (.br (z7.2.1) q0_ (.ap (y16.1.bo.length+[q5_].length) 32<|.re (Value.string s)<|.re (Value.string z2.1)<|.re (Value.bool z2.2.1)<|.re (Value.int IntKind.i64 (q3_:Int))<|.bk (bk16 (({y16.1 with bo:=y16.1.bo++[q5_]}:Si_),(w1 y16.2.1,(y16.2.2.1,(y16.2.2.2.1,())))))))))) (.lf PQ (y16.1,true,()))))))) ?_;refine Aa (λh1=>Fct.leafZ (default,false,()) (by repeat' first|exact rfl|exact trivial|refine And.intro ?_ ?_) ?_) (λh1=>Ei ?_ λo2 z2 ez2=>(Aa (λh3=>Ei ?_ λo4 z3 ez3=>(Aa (λh5=>Fct.leafZ (default,false,()) (by repeat' first|exact rfl|exact trivial|refine And.intro ?_ ?_) ?_) (λh5=>Fct.leafZ (⟨(2:Int),z2.fst,[],{ data := #[]:ByteArray }⟩,true,()) (by repeat' first|exact rfl|exact trivial|refine And.intro ?_ ?_) ?_))) (λh3=>Ei ?_ λo6 z4 ez4=>(Ac ?_ λ_=>Ac ?_ λ_=>Ei ?_ λo9 z5 ez5=>(Aa (λh10=>Fct.leafZ (default,false,()) (by repeat' first|exact rfl|exact trivial|refine And.intro ?_ ?_) ?_) (λh10=>Aa (λh11=>Fct.leafZ (default,false,()) (by repeat' first|exact rfl|exact trivial|refine And.intro ?_ ?_) ?_) (λh11=>Ac ?_ λ_=>Ac ?_ λ_=>Ac ?_ λ_=>Ac ?_ λ_=>Au ?_ λ(y16:Ty92_) i16=>Aa (λh17=>Er ?_ λo18 o19=>Ei ?_ λo20 z6 ez6=>(Ei ?_ λo21 z7 ez7=>(Aa (λh22=>Fct.leafZ (default,false,()) (by repeat' first|exact rfl|exact trivial|refine And.intro ?_ ?_) ?_) (λh22=>Ei ?_ λo23 z8 ez8=>(Aa (λh24=>Fct.leafZ (default,false,()) (by repeat' first|exact rfl|exact trivial|refine And.intro ?_ ?_) ?_) (λh24=>Ei ?_ λo25 z9 ez9=>(Aa (λh26=>Fct.leafZ (default,false,()) (by repeat' first|exact rfl|exact trivial|refine And.intro ?_ ?_) ?_) (λh26=>Aa (λh27=>Fct.leafZ (default,false,()) (by repeat' first|exact rfl|exact trivial|refine And.intro ?_ ?_) ?_) (λh27=>Ek ?_ λ_=>An<|An<|An<|An<|A8 ?_))))))))) (λh17=>lfY ?_))))))));all_goals subst_vars
 all_goals
  try simp only[Kk] at *
  try simp only[AbQ,Hs,std,Nat.reduceAdd,Ann] at *
  try simp only[show(#[47]:Array UInt8).getD 0 0=47 from rfl,show(#[32]:Array UInt8).getD 0 0=32 from rfl,show(#[61]:Array UInt8).getD 0 0=61 from rfl] at *
 all_goals
  have hk:=D0 32 s;have hm:∀ i,i<(spl 32 s).length->((spl 32 s).getD i default).size<=s.size:=λi h=>Kv (AN h)
  have hq:=Aiq s;have hx:(s.extract 1 s.size).size<=s.size:=by rw[Qc1];omega
 all_goals try (obtain⟨⟨⟨a1,a2,a3,a4,a5⟩,a6⟩,a7⟩:=i16)
 all_goals
  have hd:∀ i,((spl 32 s).drop 1).getD i default=(spl 32 s).getD (i+1) default:=λi=>by simp[Qb0,Qf3,Nat.add_comm]
  try simp only[a7,hd,Qe3] at *
 all_goals first|trivial|omega|skip
 all_goals first|(rw[Is.1 o_];exact⟨rfl,rfl⟩)|(rw[(hq.1 ‹_›).2.2];omega)|skip
 all_goals first|(rw[Is.2 o_ (hq.1 ‹_›).1 (hq.1 ‹_›).2.1,Qa5 (by rw[<-(hq.1 ‹_›).2.2,show isName _=false from ‹_›];decide)];exact⟨rfl,rfl⟩)|(rw[Is.2 o_ (hq.1 ‹_›).1 (hq.1 ‹_›).2.1,Qa3 (by rw[<-(hq.1 ‹_›).2.2];assumption)];exact⟨by rw[(hq.1 ‹_›).2.2],rfl⟩)|skip
 all_goals
  have hn:=hq.2 ‹_›;try rw[Al (show -9223372036854775808<=(((spl 32 s).length:Nat):Int)-1/\(((spl 32 s).length:Nat):Int)-1<=9223372036854775807 from o_)] at *
 all_goals first|(rw[AaO o_ hn (.inl ‹_›)];exact⟨rfl,rfl⟩)|(rw[AaO o_ hn (.inr o_)];exact⟨rfl,rfl⟩)|omega|exact⟨o_,o_,by simp,rfl,rfl⟩|exact⟨o_,o_,by simp,trivial,rfl⟩|skip
 all_goals
  have h00:=hm 0 o_;try have hw:=hm (y16.2.1.toNat+1)
 all_goals first|omega|exact⟨o_,rfl⟩|exact⟨o_,o_⟩|skip
 all_goals first|exact⟨o_,o_,o_,trivial⟩|skip
 all_goals have hc:=TS 61 ((spl 32 s).getD (y16.2.1.toNat+1) default)
 all_goals first|omega|(rw[Jm o_] at a5;rw[QR o_ hn a5.symm,Qa3 ⟨‹_›,o_⟩];exact⟨a4,rfl⟩)|rw[Ach o_] at a5
 all_goals first|(rw[Qa5 (by rintro⟨c1,c2,c3,c4⟩;first|exact tf c1 ‹_›|exact tf c2 ‹_›|exact tf c3 ‹_›|exact tf ‹_› c4)] at a5;rw[WS o_ hn a5.symm];exact⟨rfl,rfl⟩)|rw[Qa3 ⟨‹_›,‹_›,‹_›,‹_›⟩] at a5
 all_goals rw[Al o_,toNat1 o_]
 all_goals refine⟨⟨⟨⟨o_,o_,by rw[Qa1];simp only[Qa7,Qb1];omega,?_,a5⟩,a6⟩,by first|trivial|rfl⟩,o_⟩
 all_goals rw[a4])
def Kl (c:UInt8):∀ l:List UInt8,Lib.indexByte l c=if l.findIdx (λx=>x==c)=l.length then -1 else((l.findIdx λx=>x==c:Nat):Int)
 | []=>rfl
 | b::l=>by
  have hl:=List.findIdx_le_length (xs:=l) (p:=λx=>x==c);rw[Lib.indexByte,Kl c l,List.findIdx_cons];cases hb:(b==c) with
  | true=>simp
  | false=>
   simp only[Qd6,Qe6,Qe7,Qa7];by_cases h:l.findIdx (λx=>x==c)=l.length
   ·rw[Qa3 h,Qa3 (by decide),Qa3 o_]
   ·rw[Qa5 h,Qa5 (by simp only[Qf7];omega),Qa5 o_];omega
def idxJ (b:UInt8) (s:ByteArray):Int:=if idxB b s=s.size then -1 else idxB b s
abbrev Afm:Fct:=⟨[.v (.el .str),.v (.el .u8)],[.el .int],λ(x_:Ty67_)=>0<=x_.2.1/\x_.2.1<=255,λ(x_:Ty67_)=>(idxJ (UInt8.ofNat x_.2.1.toNat) x_.1,())⟩
def Af7:Go.Proofs.Lays.n137 Tryz.prog laysCmp_r:=by repeat' first|kernel_rfl|constructor|intro _
def Amk:=Am8.a Afm<|Ve rfl rfl λx hx w ow hB=>(Go.Proofs.Any.strings_IndexByte Af7 x.1 x.2.1 w).mono λe w' ⟨a,b⟩=>⟨by rw[a,Kl];rfl,by rw[b];exact Neu.refl w⟩
def AaU {x:ByteArray} (h0:0<x.size):(x.data.getD 0 0=60↔idxB 60 x=0):=by
 have e:toL x=x.data.getD 0 0::(toL x).drop 1:=by
  have:=J8 (s:=x) (i:=0) h0
  rwa [Qf1] at this
 unfold idxB;rw[e,List.findIdx_cons];cases hb:(x.data.getD 0 0==60) with
 | true=>simp;simpa using hb
 | false=>simp;simpa using hb
def Yo (b:UInt8) (x:ByteArray):(idxJ b x = -1/\idxB b x=x.size)\/(idxJ b x=idxB b x/\idxB b x<x.size):=by
 have:=G7 b x;unfold idxJ;by_cases h:idxB b x=x.size
 ·rw[Qa3 h];exact .inl ⟨rfl,h⟩
 ·rw[Qa5 h];exact .inr ⟨rfl,o_⟩
def Ab8 {x:ByteArray} (h:x.size=0):feedAll x=([],x):=by
 have k1:=G7 60 x;have k2:=G7 62 x;exact Ol o_ o_
abbrev CB (t:Sq_) (s:ByteArray):LInv:=⟨[⟨.s,6,true,.el .str⟩,⟨.s,7,true,.sl .token⟩,⟨.b,5,true,.el .tokenizer⟩],λ(z_ x_:Ty130_)=>(x_.2.1.length+x_.1.size<=(t.rest++s).size/\x_.2.1++(feedAll x_.1).1=(feedAll (t.rest++s)).1/\(feedAll x_.1).2=(feedAll (t.rest++s)).2)/\x_.2.2.1=z_.2.2.1,λ(x_:Ty130_)=>x_.1.size⟩
def Alb:=Amk.a Im<|Fct.p (KP [1,2,4,5,6,7,8,9,10,11] [18,21,25,39,47]) (λ⟨t,s,_⟩=>lv [(3,CB t s)]) Amk.2 func115 (by
 rintro⟨(t:Sq_),(s:ByteArray),_⟩ hp;refine ho (let q6_:=(⟨#[]⟩:ByteArray);let q5_:=Value.string s;.ob (sameSize t.rest s)<|lpx (CB t s) (t.rest++s,([],(default,()))) λ(y2:Ty130_) bk2=>let q2_:Out:=.lf Im (y2.2.1,⟨y2.1⟩,());let q0_:=(y2.1.size:Int);.br (!y2.1.toList==q6_.toList) (.ob ((0:Int)<=(0:Int)/\(0:Int)<q0_)<|.br ((↑(y2.1.data.getD 0 0).toNat:Int) != 60) (.cl Afm (y2.1,(60:Int),()) λ(z2:Ty3_)=>let q4_:=0<=z2.1/\z2.1<=q0_;let q1_:=(⟨(3:Int),q6_,[],y2.1.extract 0 z2.1.toNat⟩:Si_);.br (decide (z2.1<0)) q2_ (.ob q4_<|.ob (Ij (y2.2.1.length+[q1_].length) 64)<|.ob q4_<|.re q5_<|.bk (bk2 (y2.1.extract z2.1.toNat y2.1.size,(y2.2.1++[q1_],(y2.2.2.1,())))))) (.cl Afm (y2.1,(62:Int),()) λ(z3:Ty3_)=>let q3_:=0<=w1 z3.1/\w1 z3.1<=q0_;.br (decide (z3.1<0)) q2_ (.ob ((0:Int)<=(1:Int)/\1<=z3.1/\z3.1<=q0_)<|.cl PQ (y2.1.extract 1 z3.1.toNat,()) λz4=>.br (z4.2.1) (.ob (Ij (y2.2.1.length+[z4.1].length) 64)<|.ob q3_<|.re q5_<|.bk (bk2 (y2.1.extract (w1 z3.1).toNat y2.1.size,(y2.2.1++[z4.1],(y2.2.2.1,()))))) (.ob q3_<|.re q5_<|.bk (bk2 (y2.1.extract (w1 z3.1).toNat y2.1.size,(y2.2.1,(y2.2.2.1,())))))))) q2_) ?_;repeat' (guard_target =~ Out.holds _ _;first|refine Au (li:=CB t s) ?_ λ(y2:Ty130_) i2=>?_|refine lfY ?_|refine Aa (λ_=>?_) λ_=>?_|refine Af ?_ λ_=>?_|refine Ac ?_ λ_=>?_|refine A8 ?_|refine An ?_)
 all_goals
  try simp only[Kk] at *
  try simp only[std,Nat.reduceAdd] at *
  try simp only[show UInt8.ofNat (Int.toNat 60)=60 from rfl,show UInt8.ofNat (Int.toNat 62)=62 from rfl,Qa6] at *
 all_goals try (obtain⟨⟨a1,a2,a3⟩,a4⟩:=i2)
 all_goals first|trivial|omega|(unfold sameSize;omega)|skip
 all_goals
  have k1:=G7 60 y2.1;have k2:=G7 62 y2.1;have j1:=Yo 60 y2.1;have j2:=Yo 62 y2.1
 all_goals first|omega|skip
 all_goals
  have k3:=UD (x:=y2.1);have kb:=Ok (s:=y2.1) (i:=0) (b:=60) (by decide) (by decide);have kn:¬ y2.1=⟨#[]⟩->0<y2.1.size:=λh=>Nat.pos_of_ne_zero λe=>h (ByteArray.size_eq_zero_iff.1 e)
 all_goals first|(refine⟨o_,?_⟩;have:=kn ‹_›;omega)|(rw[Ab8 (x:=y2.1) (by rw[show y2.1=_ from ‹_›];rfl)] at a2 a3;rw[Qd7] at a2;exact⟨a2,by rw[<-a3]⟩)|skip
 all_goals have kh:=AaU (x:=y2.1) o_
 all_goals first|(have ht:¬ idxB 60 y2.1=0:=λe=>absurd (kb.2 (by rw[kh.2 e];rfl)) ‹_›)|(have ht:idxB 60 y2.1=0:=kh.1 ((kb.1 ‹_›).trans rfl))
 all_goals first|(rw[Ol (x:=y2.1) o_ o_] at a2 a3;rw[Qd7] at a2;exact⟨a2,by rw[<-a3]⟩)|skip
 all_goals
  try have k6:idxB 62 y2.1<y2.1.size:=o_
  try have k7:=k3 ht k6
 all_goals first|omega|(rw[Qc1];omega)|(rw[Al o_];omega)|skip
 all_goals have k5:∀ a,(y2.1.extract a y2.1.size).size=y2.1.size-a:=λa=>by rw[Qc1];omega
 all_goals first|(have e1:idxJ 60 y2.1=(idxB 60 y2.1:Int):=by omega);rw[S9 (x:=y2.1) o_ o_] at a2 a3;rw[e1,Qg2]|(have e1:idxJ 62 y2.1=(idxB 62 y2.1:Int):=by omega);rw[V9 (x:=y2.1) ht k6] at a2 a3;rw[Al o_,e1,show(((idxB 62 y2.1:Nat):Int)+1).toNat=idxB 62 y2.1+1 from o_]
 all_goals try simp only[e1,Qg2] at *
 all_goals try (first|rw[Qa3 ‹_›] at a2|rw[Qa5 (by rw[show Prod.snd _=false from ‹_›];decide)] at a2)
 all_goals refine⟨⟨⟨?_,?_,a3⟩,a4⟩,?_⟩
 all_goals first|(rw[k5];simp only[Qa1,Qa7,Qb1];omega)|(rw[k5];omega)|exact a2|(rw[Qb5];exact a2)|skip)
def AkW:=Alb.a Bw<|Fct.o (KP [1,3,5,6,7,8,9,13] [14,20,30,40,53,66]) Alb.2 func414 (by
 rintro⟨(b:Se_),(l:List So_),(x:Sr_),_⟩ hp;exact ho _ (q4 b l x hp))
abbrev Dx (b:Se_) (l:(List So_)) (r:(List Sr_)):LInv:=⟨[⟨.b,9,true,.el .ba⟩,⟨.s,10,true,.el .str⟩,⟨.s,11,true,.sl .str⟩,⟨.s,22,true,.el .int⟩,⟨.b,6,true,.el .ba⟩],λ(z_ x_:Ty105_)=>(0<=x_.2.2.2.1/\x_.2.2.2.1<=r.length/\szBuilder x_.1+szL CQ (r.drop x_.2.2.2.1.toNat)<=szBuilder b+szL CQ r/\x_.2.1.size+szL CQ (r.drop x_.2.2.2.1.toNat)<=szL CQ r/\x_.2.2.1.length<=x_.2.2.2.1/\runLines l (r.drop x_.2.2.2.1.toNat) x_.1 x_.2.1 x_.2.2.1=runScript b l r)/\x_.2.2.2.2.1=z_.2.2.2.2.1,λ(x_:Ty105_)=>r.length-x_.2.2.2.1.toNat⟩
def AmY:=AkW.a Gv<|Fct.p (KP [1,2,3,6,7,8,9,10,11,13,14,15,16,20,21,22] [23,39]) (λ⟨b,l,r,_⟩=>lv [(5,Dx b l r)]) AkW.2 func376 (by
 rintro⟨(b:Se_),(l:List So_),(r:List Sr_),_⟩ hp;refine ho (.cl Cw (b,()) λz2=>lpx (Dx b l r) (z2.1,((⟨#[]⟩:ByteArray),([],((0:Int),(default,()))))) λ(y2:Ty105_) bk2=>.br (decide (y2.2.2.2.1<(r.length:Int))) (.ob (inB y2.2.2.2.1 r.length)<|.cl Bw (y2.1,l,r.getD y2.2.2.2.1.toNat default,()) λz3=>.ob (sameSize y2.2.1 z3.2.1)<|.br (!z3.2.2.1.toList==(⟨#[]⟩:ByteArray).toList) (.ap (y2.2.2.1.length+[z3.2.2.1].length) 16<|.re (l)<|.re (r)<|.re (Value.string (⟨#[]⟩:ByteArray))<|.re (r)<|.re (Value.int IntKind.i64 (r.length:Int))<|.bk (bk2 (z3.1,(y2.2.1++z3.2.1,(y2.2.2.1++[z3.2.2.1],(w1 y2.2.2.2.1,(y2.2.2.2.2.1,()))))))) (.re (l)<|.re (r)<|.re (Value.string (⟨#[]⟩:ByteArray))<|.re (r)<|.re (Value.int IntKind.i64 (r.length:Int))<|.bk (bk2 (z3.1,(y2.2.1++z3.2.1,(y2.2.2.1,(w1 y2.2.2.2.1,(y2.2.2.2.2.1,())))))))) (.lf Gv (y2.1,y2.2.1,y2.2.2.1,()))) ?_;refine Af ?_ λ_=>(Au ?_ λ(y2:Ty105_) i2=>Aa (λh3=>Ac ?_ λ_=>Af ?_ λ_=>(Ac ?_ λ_=>Aa (λh7=>Ek ?_ λ_=>An<|An<|An<|An<|An<|A8 ?_) (λh7=>An<|An<|An<|An<|An<|A8 ?_))) (λh3=>lfY ?_))
 all_goals
  have hr:=Ab CQ r;have hx:∀ i,i<r.length->szL CQ (r.drop i)=(r.getD i default).text.size+1+szL CQ (r.drop (i+1)):=λi h=>OT CQ h
  have hs:=λbb x=>Ms bb l x
  have hrs:runLines l r b ⟨#[]⟩ []=runScript b l r:=rfl;try simp only[std,Nat.reduceAdd,runLines_at,runLines_end,sameSize,Qa6] at *
  try simp(disch:=omega) only[wrapId',toNat1] at *
  try simp(disch:=omega) only[Qa3,Qa5]
 all_goals first|trivial|omega|grind[wrapId',toNat1,drop_cons,drop_end,good_len,maxLen,runLines_at,runLines_end,sameSize,ByteArray.size_append])
def AbM (w:ByteArray):ruleOf w=if isName (Hi 58 w).1=true/\(parseInt (Hi 58 w).2.1).2=true/\1<=(parseInt (Hi 58 w).2.1).1/\(parseInt (Hi 58 w).2.1).1<=999 then some ⟨(Hi 58 w).1,(parseInt (Hi 58 w).2.1).1⟩ else none:=by
 unfold ruleOf Hi;cases h:G8 58 (toL w) with
 | none=>
  dsimp only;rw[Qa5];rintro⟨_,q,_⟩;have:(parseInt ⟨#[]⟩).2=false:=by unfold parseInt;rw[Qa5 (by rintro⟨q,_⟩;exact absurd q (by decide))]
  exact tf q this
 | some r=>rfl
abbrev B4 (s:ByteArray):LInv:=⟨[⟨.b,3,true,.el .sheet⟩,⟨.s,15,true,.el .int⟩,⟨.b,2,true,.el .sheet⟩,⟨.s,13,true,.sl .str⟩],λ(z_ x_:Ty106_)=>((0<=x_.2.1/\x_.2.1<=(spl 59 s).length/\x_.1.rules.length<=8/\parseRules ((spl 59 s).drop x_.2.1.toNat) x_.1.rules=parseRules (spl 59 s) [])/\x_.2.2.1=z_.2.2.1)/\x_.2.2.2.1=z_.2.2.2.1,λ(x_:Ty106_)=>(spl 59 s).length-x_.2.1.toNat⟩
def AkG:=AmY.a Gp<|Fct.p (KP [0,2,3,5,6,7,9,10,13,14,15] [16,44]) (λ⟨s,_⟩=>lv [(3,B4 s)]) AmY.2 func415 (by
 rintro⟨(s:ByteArray),_⟩ hp;refine ho (.cl Hs (s,(⟨#[59]⟩:ByteArray),()) λz2=>let q3_:=(z2.1.length:Int);let q1_:=Value.int IntKind.i64 q3_;lpx (B4 s) (default,((0:Int),(default,(z2.1,())))) λ(y2:Ty106_) bk2=>let q0_:Out:=.re (Value.string s)<|.re q1_<|.bk (bk2 (y2.1,(w1 y2.2.1,(y2.2.2.1,(y2.2.2.2.1,())))));.br (decide (y2.2.1<q3_)) (.ix y2.2.1 y2.2.2.2.1.length<|.cl AbQ (y2.2.2.2.1.getD y2.2.1.toNat default,(⟨#[58]⟩:ByteArray),()) λz3=>.cl Hv (z3.2.1,()) λ(z4:Int×Bool×PUnit)=>let q2_:=(⟨z3.1,z4.1⟩:Sw_);.br (z4.2.1) (.cl BH (z3.1,()) λz5=>.br (z5.1) (.cl Aw (z4.1,(1:Int),(999:Int),()) λz6=>.br (z6.1) (.br (decide ((y2.1.rules.length:Int)<8)) (.ap (y2.1.rules.length+[q2_].length) 24<|.re (Value.string s)<|.re q1_<|.bk (bk2 ((⟨y2.1.rules++[q2_]⟩:So_),(w1 y2.2.1,(y2.2.2.1,(y2.2.2.2.1,())))))) q0_) q0_) q0_) q0_) (.lf Gp (y2.1,()))) ?_;repeat' first|(guard_target =~ Out.holds _ _;first|refine Au (li:=B4 s) ?_ λ(y2:Ty106_) i2=>?_|refine lfY ?_|refine Aa (λ_=>?_) λ_=>?_|refine Af ?_ λ_=>?_|refine A8 ?_|refine An ?_|refine Ek ?_ λ_=>?_|refine Er ?_ λ_ _=>?_)|exact trivial
 all_goals
  have hk:=D0 59 s;have hm:∀ i,i<(spl 59 s).length->((spl 59 s).getD i default).size<=s.size:=λi h=>Kv (AN h)
  have hp1:s.size<=4200000000:=hp;try simp only[AbQ,Hs,std,Nat.reduceAdd,inRange] at *
  try simp only[show(#[59]:Array UInt8).getD 0 0=59 from rfl,show(#[58]:Array UInt8).getD 0 0=58 from rfl,Qa2,Qe4,Qa8,Qb3] at *
 all_goals first|omega|exact⟨o_,o_,by decide,rfl⟩|(obtain⟨⟨⟨a1,a2,a3,a4⟩,e1⟩,e2⟩:=i2;simp only[e2] at *)
 all_goals try (have hw:=hm y2.2.1.toNat o_;have hc:=TS 58 ((spl 59 s).getD y2.2.1.toNat default))
 all_goals first|omega|exact⟨o_,o_⟩|(rw[Kj o_] at a4;show y2.1=parseSheet s;unfold parseSheet;rw[<-a4])|skip
 all_goals have e:=K9 (l:=spl 59 s) (i:=y2.2.1.toNat) (acc:=y2.1.rules) o_
 all_goals rw[a4,AbM] at e
 all_goals rw[Al o_,show(y2.2.1+1).toNat=y2.2.1.toNat+1 from o_]
 all_goals first|(rw[Qa5 o_] at e;exact⟨⟨⟨⟨o_,o_,o_,e.symm⟩,e1⟩,by first|trivial|rfl⟩,o_⟩)|skip
 all_goals first|(rw[Qa3 (show y2.1.rules.length<8 from o_),Qa3 ⟨‹_›,‹_›,o_,o_⟩] at e;exact⟨⟨⟨⟨o_,o_,by simp only[Qa1,Qa7,Qb1];omega,e.symm⟩,e1⟩,by first|trivial|rfl⟩,o_⟩)|skip
 all_goals rw[Qa5 (show ¬ (isName _=true/\_) by rintro⟨q1,q2,q3,q4⟩;first|omega|exact tf q1 ‹_›|exact tf q2 ‹_›),Option.toList_none,Qd7,ite_self] at e
 all_goals exact⟨⟨⟨⟨o_,o_,o_,e.symm⟩,e1⟩,by first|trivial|rfl⟩,o_⟩)
def runL (p:Sa_) (l:List Sr_) (w:Bool):Sa_:={ p with ba:=(runScript p.ba (sheetsOf p.bf) l).1,log:=addLog p.log (runScript p.ba (sheetsOf p.bf) l).2.2,bn:=if w=true then tokensOf (runScript p.ba (sheetsOf p.bf) l).2.1++p.bn else p.bn }
def okRL (p:Sa_) (l:List Sr_):Prop:=p.bn.length<=1000000000000/\szBuilder p.ba<=40000000000/\szL AV p.bf<=40000000000/\okBod p/\szL CQ l<=366
abbrev Fy:GS:=⟨[.b (.el .page),.l (.v (.sl .line)),.l (.v (.el .bool))],[],λ(x_:Ty131_)=>okRL x_.1 x_.2.1,λ(x_:Ty131_)=>((()),(runL x_.1 x_.2.1 x_.2.2.1,()))⟩
def AdY {p:Sa_} {l:List Sr_} (h:okRL p l):szL AV p.bf<=1000000000000/\okBod p/\szBuilder p.ba<=50000000000/\szL DM (sheetsOf p.bf)<=100000000000/\szL CQ l<=1000000000/\okSheets (sheetsOf p.bf)/\(runScript p.ba (sheetsOf p.bf) l).2.1.size<=366/\(runScript p.ba (sheetsOf p.bf) l).2.2.length<=366/\p.bn.length<=1000000000000:=by
 obtain⟨h1,h2,h3,h4,h5⟩:=h;have hs:=Gt p.bf;have hr:=IK (sheetsOf p.bf) l p.ba ⟨#[]⟩ [];have hl:=Ab CQ l;have h0:ByteArray.size ⟨#[]⟩=0:=rfl;simp only[Qb1] at hr;exact⟨o_,h4,o_,o_,o_,hs.2,by(show(runLines (sheetsOf p.bf) l p.ba ⟨#[]⟩ []).2.1.size<=366;omega),by(show(runLines (sheetsOf p.bf) l p.ba ⟨#[]⟩ []).2.2.length<=366;omega),o_⟩
abbrev Ef (p:Sa_):LInv:=⟨[⟨.s,3,true,.sl .sheet⟩,⟨.s,10,true,.el .int⟩],λ_ (x_:Ty132_)=>0<=x_.2.1/\x_.2.1<=p.bf.length/\x_.1.length<=x_.2.1/\x_.1++sheetsOf (p.bf.drop x_.2.1.toNat)=sheetsOf p.bf,λ(x_:Ty132_)=>p.bf.length-x_.2.1.toNat⟩
def Aki:=AkG.a HA<|Fct.p (KP [1,2,3,5,8,9,10] [11,25]) (λ⟨p,_⟩=>lv [(3,Ef p)]) AkG.2 func377 (by
 rintro⟨(p:Sa_),_⟩ hp;refine ho (let q3_:=(p.bf.length:Int);let q2_:=Value.int IntKind.i64 q3_;lpx (Ef p) ([],((0:Int),())) λ(y1:Ty132_) bk1=>let q1_:=p.bf.getD y1.2.1.toNat default;let q0_:Out:=.re (p.bf)<|.re q2_<|.bk (bk1 (y1.1,(w1 y1.2.1,())));.br (decide (y1.2.1<q3_)) (.ob (inB y1.2.1 p.bf.length)<|.br (q1_.mode==2) (.br (q1_.done) (.br (q1_.code==1) (.cl Gp (q1_.body,()) λz2=>.ob (Ij (y1.1.length+[z2.1].length) 24)<|.re (p.bf)<|.re q2_<|.bk (bk1 (y1.1++[z2.1],(w1 y1.2.1,())))) q0_) q0_) q0_) (.lf HA (y1.1,()))) ?_;refine Au ?_ λ(y1:Ty132_) i1=>Aa (λh2=>Ac ?_ λ_=>Aa (λh4=>Aa (λh5=>Aa (λh6=>Af ?_ λ_=>(Ac ?_ λ_=>An<|An<|A8 ?_)) (λh6=>An<|An<|A8 ?_)) (λh5=>An<|An<|A8 ?_)) (λh4=>An<|An<|A8 ?_)) (λh2=>lfY ?_)
 all_goals
  have h0:sheetsOf (p.bf.drop 0)=sheetsOf p.bf:=rfl;have hl:=Ab AV p.bf;have hg:∀ i,i<p.bf.length->(p.bf.getD i default).body.size<=4200000000:=hp.2;have hg2:szL AV p.bf<=1000000000000:=hp.1;clear hp;try simp only[std,Nat.reduceAdd,sheetsOf_at,sheetsOf_end,Qa1,Qa7,Qb1,Qb5] at *
  try simp(disch:=omega) only[wrapId',toNat1] at *
  try simp(disch:=omega) only[Qa3,Qa5]
 all_goals first|trivial|omega|grind[wrapId',toNat1,drop_cons,drop_end,good_len,maxLen,sheetsOf_at,sheetsOf_end,List.length_append,List.length_cons,List.length_nil,List.append_assoc])
def AmH:=Aki.a HD<|Fct.o [0,2,3,4] Aki.2 func378 (by
 rintro⟨(s:ByteArray),_⟩ hp;exact ho _ (q2 s hp))
def Aky:=AmH.a D6<|Fct.o (KP [1,2,4,5,6,7] [11]) AmH.2 func38 (by
 rintro⟨(p:Sa_),(s:ByteArray),_⟩ hp;exact ho _ (q3 p s hp))
abbrev DR (p:Sa_) (l:(List Sr_)) (w:Bool):LInv:=⟨[⟨.s,31,true,.el .int⟩,⟨.b,0,true,.el .page⟩,⟨.s,29,true,.sl .str⟩],λ(z_ x_:Ty133_)=>x_.2.2.1=z_.2.2.1/\logInv z_.2.1 z_.2.2.1 x_.2.1 x_.1,λ(x_:Ty133_)=>x_.2.2.1.length-x_.1.toNat⟩
def Aj8:=Aky.G Fy<|GS.of (S:=Fy) (L:=λ⟨p,l,w,_⟩=>λ|3=>some (DR p l w)|_=>none) (kp:=(KP [0,2,6,7,8,10,29,30,31] [32,39])) Aky.2 func314 k_ k_ (by
 rintro⟨(p:Sa_),(l:List Sr_),(w:Bool),_⟩ hp;refine ho (.cl HA (p,()) λz2=>.cl Gv (p.ba,z2.1,l,()) λz3=>let q0_:=(z3.2.2.1.length:Int);lpx (DR p l w) ((0:Int),(({p with ba:=z3.1}:Sa_),(z3.2.2.1,()))) λ(y3:Ty133_) bk3=>.br (decide (y3.1<q0_)) (.ix y3.1 y3.2.2.1.length<|.ob (Nh.pre (y3.2.1,y3.2.2.1.getD y3.1.toNat default,()))<|.lt _ (Nh.fn (y3.2.1,y3.2.2.1.getD y3.1.toNat default,())) λz4=>.re (Value.bool w)<|.re (Value.string z3.2.1)<|.re (Value.int IntKind.i64 q0_)<|.bk (bk3 (w1 y3.1,(z4.2.1,(y3.2.2.1,()))))) (.br (w) (.cl HD (z3.2.1,()) λz5=>.ob (Ij (z5.1.length+y3.2.1.bn.length) 64)<|GS.out Fy ((()),({y3.2.1 with bn:=z5.1++y3.2.1.bn},()))) (GS.out Fy ((()),(y3.2.1,()))))) ?_;refine Af ?_ λ_=>(Af ?_ λ_=>(Au ?_ λ(y3:Ty133_) i3=>Aa (λh4=>Er ?_ λo5 o6=>Ac trivial λ_=>DW (An<|An<|An<|A8 ?_)) (λh4=>Aa (λh8=>Af ?_ λ_=>(Ac ?_ λ_=>GS.leafY ?_)) (λh8=>GS.leafY ?_))))
 all_goals obtain⟨r1,r2,r3,r4,r5,r6,r7,r8,r9⟩:=AdY (show okRL p l from hp)
 all_goals
  try simp only[Kk] at *
  try simp only[std,Nat.reduceAdd] at *
 all_goals first|trivial|omega|exact⟨r1,r2⟩|exact⟨r3,r4,r5,r6⟩|exact Vs _ _|(obtain⟨j1,j3⟩:=i3;simp only[j1] at *;have j0:=j3.1)|skip
 all_goals first|trivial|omega|exact⟨j0,‹_›⟩|(rw[Al o_];simp only[and_true,true_and];exact⟨Tz j3 ‹_›,o_⟩)|skip
 all_goals
  have e:=P6 j3 o_;have eq1:y3.2.1.bn=p.bn:=by rw[e]
  have ht:=I6 (runScript p.ba (sheetsOf p.bf) l).2.1
 all_goals first|(simp only[eq1];omega)|skip
 all_goals (unfold runL;(first|rw[Qa3 ‹_›]|rw[Qa5 (by intro q;exact tf q ‹_›)]);rw[e]))
def Ue {p:Sa_} {c:ByteArray} {w:Bool} (h:(parseScript c).2=true):runCode p c w=runL p (parseScript c).1 w:=by unfold runCode;rw[Qa3 h];rfl
def Yf {p:Sa_} {c:ByteArray} {w:Bool} (h:(parseScript c).2=false):runCode p c w=say p ⟨#[101,114,114,111,114]⟩:=by
 unfold runCode;rw[Qa5 (by rw[h];decide)];unfold say;split
 ·rename_i hc;rw[addLog,Qa3 hc,Ii]
 ·rename_i hc;rw[IT hc]
def Ai1:=Aj8.a DO<|Fct.o (KP [1,2,3,6,7,8,9] [18]) Aj8.2 func209 (by
 rintro⟨(p:Sa_),(c:ByteArray),(w:Bool),_⟩ hp;refine ho (.cl AC (p,()) λz2=>.cl Bs (c,()) λz3=>.br (!z3.2.1) (.ob (Nh.pre (z2.1,(⟨#[101,114,114,111,114]⟩:ByteArray),()))<|.lt _ (Nh.fn (z2.1,(⟨#[101,114,114,111,114]⟩:ByteArray),())) λz4=>.lf DO (z4.2.1,())) (.ob (Fy.pre (z2.1,z3.1,w,()))<|.lt _ (Fy.fn (z2.1,z3.1,w,())) λz5=>.lf DO (z5.2.1,()))) ?_;refine Af ?_ λ_=>(Af ?_ λ_=>(Aa (λh3=>Ac trivial λ_=>DW (lfY ?_)) (λh3=>Ac ?_ λ_=>DW (lfY ?_))))
 all_goals obtain⟨hp1,hp2,hp3,hp4,hp5⟩:=(show Ag p<=1000000000000/\szBuilder p.ba<=40000000000/\szL AV p.bf<=40000000000/\c.size<=4200000000/\okBod p from hp)
 all_goals try simp only[std,Nat.reduceAdd] at *
 all_goals first|trivial|omega|exact⟨by(have h1:=Ab szToken p.bn;have h2:=EY p;show p.bn.length<=_;omega),hp2,hp3,hp5,(GI c).1⟩|(rw[Yf ‹_›])|(rw[Ue ‹_›]))
def Ak1:=Ai1.a BE<|Fct.o (KP [1,2,3,4,5] [8,14,25,40,54,62]) Ai1.2 func117 (by
 rintro⟨(p:Sa_),_⟩ hp;refine ho (let q5_:=(p.bf.length:Int);let q0_:=p.block-(1:Int);let q3_:=p.bf.getD (wr q0_).toNat default;let q2_:=0<=wr q0_/\wr q0_<q5_;.cl AC (p,()) λz2=>let q4_:Out:=.lf BE (z2.1,false,());let q1_:Out:=.lf BE ({z2.1 with block:=(0:Int)},true,());.br (p.inline != 0) (.cl Bt (p,()) λz3=>.br (!z3.1) q4_ (.cl LU (p.ba,p.inline,()) λz4=>.cl DO (z2.1,z4.1,true,()) λz5=>.lf BE ({z5.1 with inline:=(0:Int)},true,()))) (.br (p.block != 0) (.br (decide (wr q0_<0)) q1_ (.br (decide (wr q0_>=q5_)) q1_ (.ob q2_<|.br (!q3_.done) q4_ (.cl Bt (p,()) λz6=>.br (!z6.1) q4_ (.ob q2_<|.br (q3_.code==1) (.ob q2_<|.cl DO (z2.1,q3_.body,true,()) λz7=>.lf BE ({z7.1 with block:=(0:Int)},true,())) q1_))))) (.cl AY (p,()) λz8=>.lf BE (z8.1,z8.2.1,())))) ?_;repeat' (guard_target =~ Out.holds _ _;first|refine lfY ?_|refine Aa (λ_=>?_) λ_=>?_|refine Af ?_ λ_=>?_|refine Ac ?_ λ_=>?_)
 all_goals obtain⟨hp0,hp6,hp5⟩:=(show okParse p from hp)
 all_goals obtain⟨hp1,hp2,hp3,hp4,hp7⟩:=(show okTok p from hp0)
 all_goals
  have hbb:szBuilder p.ba<=2000000000:=by(unfold szBuilder;omega)
  have hpp:=EY p;have hsl:=Ab AV p.bf;have hnl:=Ab AK p.ba.bi;have htx:=Lt p.inline p.ba.bi ⟨#[]⟩
 all_goals rw[show ByteArray.size ⟨#[]⟩=0 from rfl] at htx
 all_goals
  try simp only[std,Nat.reduceAdd,inRange,QJ] at *
  try simp only[QJ,Qa2,Qe4,Qa8,Qb3,Al (show -9223372036854775808<=(p.bf.length:Int)-1/\(p.bf.length:Int)-1<=9223372036854775807 from o_)] at *
 all_goals first|trivial|omega|exact hp0|exact⟨o_,o_,o_,hp5 _ o_,hp5⟩|exact⟨o_,o_,o_,o_,hp5⟩|skip
 all_goals unfold stepParser
 all_goals first|rw[Qa3 ‹_›]|(rw[Qa5 o_];first|rw[Qa3 ‹_›]|rw[Qa5 o_])
 all_goals first|exact⟨rfl,rfl⟩|(unfold stepInline)|(unfold stepBlock)
 all_goals repeat first|rw[Qa3 ‹_›]|rw[Qa5 (by intro q;first|exact tf q ‹_›|exact tf ‹_› q)]|rw[Qa3 o_]|rw[Qa5 o_]|rw[Qa3 (by exact .inl ‹_›)]|rw[Qa3 (by exact .inr ‹_›)]|rw[Qa5 (by rintro(q|q)<;>exact tf ‹_› q)]|fail
 all_goals exact⟨rfl,rfl⟩)
def Adw {p q:Sa_} {a:Sb_} {i:Int} (h:entInv p a q i) (hp:okEnt p a) (b:Sb_):okRL { q with ran:=q.ran++[b]} (entLines p b):=by
 have he:=Hw h;have hz:=NN h hp;have e:=h.2.2.2.1;have eq1:q.bn=p.bn:=by rw[e]
 have hl:=Ab szToken p.bn;have hpp:=EY p;have h1:=hp.1;refine⟨?_,?_,?_,?_,(KU p b).1⟩
 ·show q.bn.length<=_;rw[eq1];omega
 ·show szBuilder q.ba<=_;omega
 ·show szL AV q.bf<=_;rw[he.2];omega
 ·intro j hj;have hj:j<q.bf.length:=hj;show(q.bf.getD j default).body.size<=_;rw[he.2] at hj ⊢;exact hp.2.2.2.2.2 j hj
def S0 (p:Sa_) (b:Sb_):(parseModule (p.bh.getD (findMod p.bh b).toNat default).body b.host).2.1=entLines p b:=rfl
def Ac3 {p q:Sa_} {a:Sb_} {i:Int} (h:entInv p a q i) (b:Sb_) (hn:inL q.ran b=false):runL { q with ran:=q.ran++[b]} (entLines p b) false=enter1 p q b:=by
 have he:=Hw h;unfold runL enter1 entRun;rw[Qa5 (show ¬ (false=true) by decide),Qa5 (show ¬ inL q.ran b=true by rw[hn];decide)];simp only[he.2]
abbrev MD:GS:=⟨[.b (.el .page),.l (.v (.el .addr))],[],λ(x_:Ty29_)=>okEnt x_.1 x_.2.1,λ(x_:Ty29_)=>((()),(enter x_.1 x_.2.1,()))⟩
abbrev Gf (p:Sa_) (a:Sb_):LInv:=⟨[⟨.s,25,true,.el .int⟩,⟨.b,0,true,.el .page⟩,⟨.s,23,true,.sl .addr⟩],λ(z_ x_:Ty123_)=>(entInv p a x_.2.1 x_.1)/\x_.2.2.1=z_.2.2.1,λ(x_:Ty123_)=>(reachOf p a).length-x_.1.toNat⟩
def AjY:=Ak1.G MD<|GS.of (S:=MD) (L:=λ⟨p,a,_⟩=>λ|4=>some (Gf p a)|_=>none) (kp:=(KP [0,3,5,7,23,24,25] [13,26,34])) Ak1.2 func215 k_ k_ (by
 rintro⟨(p:Sa_),(a:Sb_),_⟩ hp;refine ho (let q1_:=(⟨#[102,97,105,108,32]⟩:ByteArray);.cl Eg (p,a,()) λz2=>.br (z2.1) (.cl Ec (a,()) λz3=>.ob (sameSize q1_ z3.1)<|.ob (Nh.pre (p,q1_++z3.1,()))<|.lt _ (Nh.fn (p,q1_++z3.1,())) λz4=>GS.out MD ((()),(z4.2.1,()))) (.cl GF (p,a,()) λz5=>let q3_:=(z5.1.length:Int);let q2_:=Value.int IntKind.i64 q3_;lpx (Gf p a) ((0:Int),(p,(z5.1,()))) λ(y6:Ty123_) bk6=>let q0_:=({y6.2.1 with ran:=y6.2.1.ran++[y6.2.2.1.getD y6.1.toNat default]}:Sa_);.br (decide (y6.1<q3_)) (.ix y6.1 y6.2.2.1.length<|.cl Fg (y6.2.1.ran,y6.2.2.1.getD y6.1.toNat default,()) λz6=>.br (z6.1) (.re q2_<|.bk (bk6 (w1 y6.1,(y6.2.1,(y6.2.2.1,()))))) (.ap (y6.2.1.ran.length+[y6.2.2.1.getD y6.1.toNat default].length) 32<|.cl Hd (q0_,y6.2.2.1.getD y6.1.toNat default,()) λ(z7:Ty3_)=>.ix z7.1 y6.2.1.bh.length<|.cl BX ((y6.2.1.bh.getD z7.1.toNat default).body,(y6.2.2.1.getD y6.1.toNat default).host,()) λz8=>.ob (Fy.pre (q0_,z8.2.1,false,()))<|.lt _ (Fy.fn (q0_,z8.2.1,false,())) λz9=>.re q2_<|.bk (bk6 (w1 y6.1,(z9.2.1,(y6.2.2.1,())))))) (GS.out MD ((()),(y6.2.1,()))))) ?_;refine Af ?_ λ_=>(Aa (λh2=>Af ?_ λ_=>(Ac ?_ λ_=>Ac trivial λ_=>DW (GS.leafY ?_))) (λh2=>Af ?_ λ_=>(Au ?_ λ(y6:Ty123_) i6=>Aa (λh7=>Er ?_ λo8 o9=>Af ?_ λ_=>(Aa (λh11=>An<|A8 ?_) (λh11=>Ek ?_ λ_=>Af ?_ λ_=>(Er ?_ λo15 o16=>Af ?_ λ_=>(Ac ?_ λ_=>DW (An<|A8 ?_)))))) (λh7=>GS.leafY ?_))))
 all_goals have hq:okEnt p a:=hp
 all_goals obtain⟨p1,p2,p3,p4,p5,p6⟩:=(show okEnt p a from hp)
 all_goals
  have hfa:=Qs a;try simp only[Kk] at *
  try simp only[std,Nat.reduceAdd,Kn,Ry] at *
 all_goals first|trivial|omega|exact p2|(unfold sameSize;rw[show ByteArray.size ⟨#[102,97,105,108,32]⟩=5 from rfl];omega)|exact Wz p a|(unfold enter;rw[Qa3 ‹_›])|skip
 all_goals (obtain⟨i1,e2⟩:=i6;have em:=(Hw i1).1;have i0:=i1.1;have iz:=NN i1 hq)
 all_goals try simp only[e2,em,S0] at *
 all_goals first|trivial|omega|skip
 all_goals try (have hmem:=AN (l:=reachOf p a) (i:=y6.1.toNat) o_;have hfnd:=MM ‹_› hmem;have hfi:=BW p.bh ((reachOf p a).getD y6.1.toNat default))
 all_goals first|exact⟨hfnd,hfi.1⟩|exact⟨p2.2.1 _ o_,J5 hmem p2.2.2.1⟩|(rw[Al o_];have e:=LO i1 o_;unfold enter1 at e;rw[Qa3 ‹_›] at e;exact⟨⟨e,trivial⟩,o_⟩)|(unfold enter;rw[Qa5 (by intro q;exact tf q ‹_›)];have e:=i1.2.2.1;rw[MR o_] at e;exact e)|skip
 all_goals
  have hR:=Adw i1 hq ((reachOf p a).getD y6.1.toNat default);have hL:=Ac3 i1 ((reachOf p a).getD y6.1.toNat default) ‹_›;have em2:=(Hw i1).1
 all_goals simp only[em2] at hR hL
 all_goals first|exact hR|(rw[hL,Al o_];exact⟨⟨LO i1 o_,trivial⟩,o_⟩))
def T1 (p:Sa_) (c:ByteArray) (w:Bool):(runCode p c w).bm=p.bm:=by unfold runCode;split<;>rfl
def M2 (p:Sa_):∀ (l:List Sb_) (q:Sa_),(enterAll p q l).bq=q.bq
 | [],q=>rfl
 | b::l,q=>by have:=M2 p l (enter1 p q b);refine this.trans ?_;unfold enter1;split<;>rfl
def Aaa (p:Sa_) (a:Sb_):(enter p a).bq=p.bq:=by
 unfold enter;split
 ·unfold say;split<;>rfl
 ·exact M2 p _ p
def AjT:=AjY.a CU<|Fct.o (KP [1,2,3,4,5,6,7] [26,30,52,56,66,87,96]) AjY.2 func118 (by
 rintro⟨(p:Sa_),_⟩ hp;refine ho (let q2_:=(⟨#[108,111,97,100]⟩:ByteArray);.cl AC (p,()) λz2=>let q0_:Out:=.lf CU (z2.1,false,());.cl EJ (p,()) λz3=>.br (!z3.1) q0_ (.br (p.loaded) q0_ (.br (decide (p.bm<0)) q0_ (.br (decide (p.bq<0)) q0_ (.cl DI (p,()) λ(z4:Ty40_)=>let q1_:=p.bf.getD (z4.1.getD p.bm.toNat default).toNat default;.br (decide (p.bm<(z4.1.length:Int))) (.ix p.bm z4.1.length<|.ob (0<=z4.1.getD p.bm.toNat default/\z4.1.getD p.bm.toNat default<(p.bf.length:Int))<|.br (!q1_.done) q0_ (.cl Bt (p,()) λz5=>.br (!z5.1) q0_ (.br (q1_.code==1) (.cl DO (z2.1,q1_.body,false,()) λz6=>.lf CU ({z6.1 with bm:=w1 z6.1.bm},true,())) (.lf CU ({z2.1 with bm:=w1 z2.1.bm},true,()))))) (.br (decide (p.bq<(p.bg.length:Int))) (.ob (inB p.bq p.bg.length)<|.cl CW (p,p.bg.getD p.bq.toNat default,()) λz7=>.br (!z7.1) q0_ (.cl Bt (p,()) λz8=>.br (!z8.1) q0_ (.ob (MD.pre (z2.1,p.bg.getD p.bq.toNat default,()))<|.lt _ (MD.fn (z2.1,p.bg.getD p.bq.toNat default,())) λz9=>.lf CU ({z9.2.1 with bq:=w1 z9.2.1.bq},true,())))) (.cl FA (p,()) λ(z10:Ty40_)=>.br ((z10.1.length:Int)==0) (.cl GZ (p,()) λ(z11:Ty40_)=>.br ((z11.1.length:Int)==0) (.ob (Nh.pre (z2.1,q2_,()))<|.lt _ (Nh.fn (z2.1,q2_,())) λz12=>.lf CU ({z12.2.1 with loaded:=true},true,())) q0_) q0_))))))) ?_;repeat' first|(guard_target =~ Out.holds _ _;first|refine lfY ?_|refine Aa (λ_=>?_) λ_=>?_|refine Af ?_ λ_=>?_|refine Ac ?_ λ_=>?_|refine DW ?_|refine Er ?_ λ_ _=>?_)|exact trivial
 all_goals have hq:okTail p:=hp
 all_goals obtain⟨⟨⟨hp1,hp2,hp3,hp4,hp9⟩,hp8,hp5⟩,hp6,hp10,hp7⟩:=(show okTail p from hp)
 all_goals
  have hbb:szBuilder p.ba<=2000000000:=by(unfold szBuilder;omega)
  have hpp:=EY p;have hsl:=Ab AV p.bf;have hml:=Ab AJ p.bh;have hel:=Ab szAddr p.bg;have hdl:(deferredSlots p).length<=p.bf.length:=Dt _ _ _;try simp only[Kk] at *
  try simp only[std,Nat.reduceAdd,NM,Qq] at *
 all_goals first|trivial|omega|skip
 all_goals
  have hds:0<=p.bm->p.bm<(deferredSlots p).length->(defSlot p).body.size<=4200000000:=λa b=>hp5 _ (by have:=J3 p a b;omega)
  have hes:0<=p.bq->p.bq<p.bg.length->okEnt p (entNow p):=λa b=>Qr hq o_
 all_goals first|exact J3 p ‹_› ‹_›|exact⟨hp1,o_,o_,hds ‹_› ‹_›,hp5⟩|exact hes ‹_› ‹_›|exact(hes ‹_› ‹_›).2.1|skip
 all_goals unfold stepTail
 all_goals repeat first|rw[Qa3 (by first|assumption|omega|exact .inl ‹_›|exact .inr ‹_›|exact .inr (.inl ‹_›)|exact .inr (.inr (.inl o_))|exact .inr (.inr (.inr o_))|exact .inl o_|exact .inr o_)]|rw[Qa5 (by first|omega|(rintro(q|q|q|q)<;>first|omega|exact tf ‹_› q|exact tf q ‹_›)|(rintro(q|q)<;>first|omega|exact tf ‹_› q))]|unfold tailDefer|unfold tailEnter
 all_goals first|exact⟨rfl,rfl⟩|exact⟨rfl,trivial⟩|(rw[Al o_];first|exact⟨rfl,rfl⟩|exact⟨rfl,trivial⟩)|(simp only[T1,Aaa];rw[Al o_];first|exact⟨rfl,rfl⟩|exact⟨rfl,trivial⟩))
abbrev EP (p:Sa_):LInv:=⟨[⟨.b,3,true,.el .page⟩,⟨.s,4,true,.el .int⟩,⟨.b,2,true,.el .page⟩],λ(z_ x_:Ty126_)=>(advInv p x_.1 x_.2.1)/\x_.2.2.1=z_.2.2.1,λ(x_:Ty126_)=>(2000-x_.2.1).toNat⟩
def AmT:=AjT.a Em<|Fct.p (KP [1,2,3,4,5,6] [10,19,26]) (λ⟨p,_⟩=>lv [(3,EP p)]) AjT.2 func40 (by
 rintro⟨(p:Sa_),_⟩ hp;refine ho (.cl AC (p,()) λz2=>lpx (EP p) (z2.1,((0:Int),(default,()))) λ(y2:Ty126_) bk2=>.br (decide (y2.2.1<2000)) (.cl BE (y2.1,()) λz3=>.br (!z3.2.1) (.cl CU (y2.1,()) λz4=>.br (!z4.2.1) (.lf Em (y2.1,())) (.bk (bk2 (z4.1,(w1 y2.2.1,(y2.2.2.1,())))))) (.br (!z3.2.1) (.lf Em (y2.1,())) (.bk (bk2 (z3.1,(w1 y2.2.1,(y2.2.2.1,()))))))) (.lf Em (y2.1,()))) ?_;refine Af ?_ λ_=>(Au ?_ λ(y2:Ty126_) i2=>Aa (λh3=>Af ?_ λ_=>(Aa (λh5=>Af ?_ λ_=>(Aa (λh7=>lfY ?_) (λh7=>A8 ?_))) (λh5=>Aa (λh9=>lfY ?_) (λh9=>A8 ?_)))) (λh3=>lfY ?_))
 all_goals
  have hq:okAdv p:=hp;have h0:=(IQ (J1 hq)).1.1.1;try simp only[std,Nat.reduceAdd] at *
 all_goals first|trivial|omega|skip
 all_goals first|exact J1 hq|exact⟨J1 hq,rfl⟩|(obtain⟨i3,e1⟩:=i2;have ht:=IQ i3)
 all_goals first|exact ht|exact ht.1|exact(tf ‹_› ‹_›).elim|skip
 all_goals first|exact IV i3 (λh=>absurd h o_)|exact IV i3 (λ_=>by rw[Mj ‹_›];assumption)|skip
 all_goals rw[Al (by have:=i3.1;omega)]
 all_goals first|(have e:=Lq i3 ‹_› (by rw[Mj ‹_›];assumption);rw[Mj ‹_›] at e;exact⟨⟨e,e1⟩,o_⟩)|(have e:=Lq i3 ‹_› (by rw[Rz ‹_›];assumption);rw[Rz ‹_›] at e;exact⟨⟨e,e1⟩,o_⟩))
def AkM:=AmT.a CC<|Fct.o (KP [1,2,3,4,5] [11,27]) AmT.2 func7 (by
 rintro⟨(l:Sd_),_⟩ hp;refine ho (.cl Cf (l,()) λz2=>.br ((l.parts.length:Int)==0) (.lf CC (z2.1,false,())) (.ob ((0:Int)<=(0:Int)/\(0:Int)<(l.parts.length:Int))<|.cl D6 (z2.1.page,l.parts.getD 0 default,()) λz3=>.ob ((0:Int)<=(1:Int)/\(1:Int)<=(z2.1.parts.length:Int))<|.br ((↑(z2.1.parts.length-1):Int)==0) (.cl HX (z3.1,()) λz4=>.cl Em (z4.1,()) λz5=>.ob (1+(z2.1.parts.length-1)<=z2.1.parts.length)<|.lf CC (⟨z2.1.net,z5.1,cut z2.1.parts 1 (z2.1.parts.length-1),z2.1.conns,z2.1.guesses⟩,true,())) (.cl Em (z3.1,()) λz6=>.ob (1+(z2.1.parts.length-1)<=z2.1.parts.length)<|.lf CC (⟨z2.1.net,z6.1,cut z2.1.parts 1 (z2.1.parts.length-1),z2.1.conns,z2.1.guesses⟩,true,())))) ?_;refine Af ?_ λ_=>(Aa (λh2=>lfY ?_) (λh2=>Ac ?_ λ_=>Af ?_ λ_=>(Ac ?_ λ_=>Aa (λh6=>Af ?_ λ_=>(Af ?_ λ_=>(Ac ?_ λ_=>lfY ?_))) (λh6=>Af ?_ λ_=>(Ac ?_ λ_=>lfY ?_)))))
 all_goals have hq:okArr l:=hp
 all_goals obtain⟨hsz1,hsz2,hsz3⟩:=hq.1
 all_goals
  have hpg:Ag l.page<=1000000000000:=by(obtain⟨Q,M,R,h1,h2,h3,h4⟩:=hq.2.2;exact J2 h1 o_ h3 h4)
  have hpl:l.parts.length<=2900000:=by(have h1:=hq.2.1;have:=Ab Ae l.parts;omega)
  try simp only[std,Nat.reduceAdd] at *
 all_goals first|trivial|omega|(rw[Y2 o_];exact⟨rfl,rfl⟩)|(obtain⟨g1,g2,g3,g4,g5⟩:=WD hq o_)|skip
 all_goals first|trivial|omega|exact⟨g1,g2,g3⟩|skip
 all_goals first|(rw[QN o_] at g5;first|exact g5|(rw[NJ o_,QN o_,Lj];exact⟨rfl,rfl⟩))|(rw[QS o_] at g5;first|exact g5|(rw[NJ o_,QS o_,Lj];exact⟨rfl,rfl⟩)))
def K6 (p:Sj_) (r:Sg_) (x:Sc_):(usable p r x).1.size<=400:=by
 unfold usable;split
 ·rename_i h;by_cases hi:isResponse x=true
  ·unfold isResponse at hi;simp only[Qa2,Qa8] at hi;exact hi.2.2.1
  ·exfalso;unfold checkResponse at h;split at h
   ·cases h
   ·rw[Qa3 (.inl (by simpa using hi))] at h;cases h
 ·exact Nat.zero_le _
def T7 {α:Type} (f:α->α) (m:α) (B:List α):∀ A:List α,(A++m::B).modify A.length f=A++f m::B
 | []=>rfl
 | a::A=>Qg5 (List.cons a) (T7 f m B A)
def Hx {α:Type} [Inhabited α] (f:α->α) {l:List α} {i:Nat} (h:i<l.length):l.modify i f=l.take i++f (l.getD i default)::l.drop (i+1):=by
 have e:(l.take i).length=i:=by rw[Qc2];omega
 have:=T7 f (l.getD i default) (l.drop (i+1)) (l.take i);rw[e,<-drop_cons h,Qd9] at this;exact this
def Iw {α:Type} (f g:α->α):∀ (l:List α) (i:Nat),(l.modify i f).modify i g=l.modify i λz=>g (f z)
 | [],0=>rfl
 | [],_+1=>rfl
 | _::_,0=>rfl
 | a::l,i+1=>Qg5 (List.cons a) (Iw f g l i)
def Mi {p:Sa_} {k:Int} (h0:0<=k) (h:k<p.bf.length):slotRequest p k=reqOf p (p.bf.getD k.toNat default):=by unfold slotRequest;rw[Qa3 ⟨h0,h⟩];rfl
def Ad3 {p:Sa_} {k:Int} {x:Sc_} (h0:0<=k) (h:k<p.bf.length) (hd:(p.bf.getD k.toNat default).done=false):(((p.bf.modify k.toNat λz=>(⟨z.mode,z.to,z.digest,z.node,true,z.code,z.body⟩:Sl_)).modify k.toNat λz=>(⟨z.mode,z.to,z.digest,z.node,z.done,checkResponse p.bj (slotRequest p k) x,z.body⟩:Sl_)).modify k.toNat λz=>(⟨z.mode,z.to,z.digest,z.node,z.done,z.code,(usable p.bj (slotRequest p k) x).1⟩:Sl_))=p.bf.modify k.toNat (fillS p x):=by
 have hi:k.toNat<p.bf.length:=o_
 rw[Iw,Iw,Hx _ hi,Hx _ hi,Mi h0 h];unfold fillS;rw[Qa5 (by rw[hd];decide)]
def P5 {p:Sa_} {k:Int} {x:Sc_} (h0:0<=k) (h:k<p.bf.length) (hd:(p.bf.getD k.toNat default).done=true):fillSlot p k x=p:=by
 have hi:k.toNat<p.bf.length:=o_
 have e:p.bf.modify k.toNat (fillS p x)=p.bf:=by rw[Hx _ hi];unfold fillS;rw[Qa3 hd,<-drop_cons hi,Qd9]
 unfold fillSlot;rw[Qa3 ⟨h0,h⟩,e]
def Ajl:=AkM.a GV<|Fct.o (KP [1,3,5,6,7,8] [25]) AkM.2 func264 (by
 rintro⟨(p:Sa_),(k:Int),(x:Sc_),_⟩ hp;refine ho (.cl AC (p,()) λz2=>let q0_:Out:=.lf GV (z2.1,());.cl Aw (k,(0:Int),wr ((p.bf.length:Int)-(1:Int)),()) λz3=>.br (!z3.1) q0_ (.ob (inB k p.bf.length)<|.br ((p.bf.getD (Int.toNat k) default).done) q0_ (.cl BF (p,k,()) λz4=>.ob (inB k z2.1.bf.length)<|.ob (Int.toNat k<z2.1.bf.length)<|.lt (List Sl_) (z2.1.bf.modify (Int.toNat k) λz=>({z with done:=true}:Sl_)) λz5=>.cl Aq (p.bj,z4.1,x,()) λ(z6:Ty3_)=>.ob (inB k z5.length)<|.ob (Int.toNat k<z5.length)<|.lt (List Sl_) (z5.modify (Int.toNat k) λz=>({z with code:=z6.1}:Sl_)) λz7=>.cl C1 (p.bj,z4.1,x,()) λz8=>.ob (inB k z7.length)<|.ob (Int.toNat k<z7.length)<|.lt (List Sl_) (z7.modify (Int.toNat k) λz=>({z with body:=z8.1}:Sl_)) λz9=>.lf GV ({z2.1 with bf:=z9},())))) ?_;refine Af ?_ λ_=>(Af trivial λ_=>(Aa (λh2=>lfY ?_) (λh2=>Ac ?_ λ_=>Aa (λh4=>lfY ?_) (λh4=>Af ?_ λ_=>(Ac ?_ λ_=>Ac ?_ λ_=>DW (Af ?_ λ_=>(Ac ?_ λ_=>Ac ?_ λ_=>DW (Af ?_ λ_=>(Ac ?_ λ_=>Ac ?_ λ_=>DW (lfY ?_))))))))))
 all_goals obtain⟨q1,q2,q3,q4,q5,q6,q7⟩:=(show Ag p<=1000000000000/\p.addr.host.size<=4000000000/\(∀ i,i<p.bf.length->AV (p.bf.getD i default)<=50000000000)/\-9223372036854775808<=k/\k<=9223372036854775807/\x.bj.size<=200000000/\x.body.size<=1000000000 from hp)
 all_goals
  have hl:p.bf.length<=1000000000000:=by have:=Ab AV p.bf;simp only[Ag] at q1;omega
  have hpo:AM p.bj<=1000000000000:=by simp only[Ag] at q1;omega
  try simp only[std,Nat.reduceAdd,inRange] at *
  try rw[Al o_] at h2
  try simp only[Qa2,Qe4,Qa8,Qb3] at h2
 all_goals first|trivial|omega|(unfold fillSlot;rw[Qa5 o_])|exact(P5 o_ o_ ‹_›).symm|(simp only[Qg4];omega)|skip
 all_goals first|(rw[Mi o_ o_];have:=q3 k.toNat o_;simp only[AV] at this;exact⟨o_,by simp only[BJ,reqOf];simp only[szAddr] at *;omega,q6,q7⟩)|(unfold fillSlot;rw[Qa3 o_,<-Ad3 o_ o_ ‹_›]))
def AlZ:=Ajl.a GV<|Fct.o (KP [1,3,5,6,7,8] [27]) Ajl.2 func229 (by
 rintro⟨(p:Sa_),(k:Int),(x:Sc_),_⟩ hp;refine ho (.cl AC (p,()) λz2=>let q0_:Out:=.lf GV (z2.1,());.br (decide (k<0)) q0_ (.br (decide (k>=(p.bf.length:Int))) q0_ (.ob (inB k p.bf.length)<|.br ((p.bf.getD (Int.toNat k) default).done) q0_ (.cl BF (p,k,()) λz3=>.ob (inB k z2.1.bf.length)<|.ob (Int.toNat k<z2.1.bf.length)<|.lt (List Sl_) (z2.1.bf.modify (Int.toNat k) λz=>({z with done:=true}:Sl_)) λz4=>.cl Aq (p.bj,z3.1,x,()) λ(z5:Ty3_)=>.ob (inB k z4.length)<|.ob (Int.toNat k<z4.length)<|.lt (List Sl_) (z4.modify (Int.toNat k) λz=>({z with code:=z5.1}:Sl_)) λz6=>.cl C1 (p.bj,z3.1,x,()) λz7=>.ob (inB k z6.length)<|.ob (Int.toNat k<z6.length)<|.lt (List Sl_) (z6.modify (Int.toNat k) λz=>({z with body:=z7.1}:Sl_)) λz8=>.lf GV ({z2.1 with bf:=z8},()))))) ?_;refine Af ?_ λ_=>(Aa (λh2=>lfY ?_) (λh2=>Aa (λh3=>lfY ?_) (λh3=>Ac ?_ λ_=>Aa (λh5=>lfY ?_) (λh5=>Af ?_ λ_=>(Ac ?_ λ_=>Ac ?_ λ_=>DW (Af ?_ λ_=>(Ac ?_ λ_=>Ac ?_ λ_=>DW (Af ?_ λ_=>(Ac ?_ λ_=>Ac ?_ λ_=>DW (lfY ?_))))))))))
 all_goals obtain⟨q1,q2,q3,q4,q5,q6,q7⟩:=(show Ag p<=1000000000000/\p.addr.host.size<=4000000000/\(∀ i,i<p.bf.length->AV (p.bf.getD i default)<=50000000000)/\-9223372036854775808<=k/\k<=9223372036854775807/\x.bj.size<=200000000/\x.body.size<=1000000000 from hp)
 all_goals
  have hl:p.bf.length<=1000000000000:=by have:=Ab AV p.bf;simp only[Ag] at q1;omega
  have hpo:AM p.bj<=1000000000000:=by simp only[Ag] at q1;omega
  try simp only[std,Nat.reduceAdd,inRange] at *
  try rw[Al o_] at h2
  try simp only[Qa2,Qe4,Qa8,Qb3] at h2
 all_goals first|trivial|omega|(unfold fillSlot;rw[Qa5 o_])|exact(P5 o_ o_ ‹_›).symm|(simp only[Qg4];omega)|skip
 all_goals first|(rw[Mi o_ o_];have:=q3 k.toNat o_;simp only[AV] at this;exact⟨o_,by simp only[BJ,reqOf];simp only[szAddr] at *;omega,q6,q7⟩)|(unfold fillSlot;rw[Qa3 o_,<-Ad3 o_ o_ ‹_›]))
def fillF (p:Sa_) (a:Sb_) (x:Sc_) (s:Sl_):Sl_:=if s.to=a then fillS p x s else s
def fillTo (p:Sa_) (a:Sb_) (x:Sc_) (i:Nat):Sa_:={ p with bf:=(p.bf.take i).map (fillF p a x)++p.bf.drop i }
def fillAll (p:Sa_) (a:Sb_) (x:Sc_):Sa_:={ p with bf:=p.bf.map (fillF p a x)}
def und1 (s:Sl_):Nat:=if s.done=true then 0 else 1
def VM (p:Sa_) (a:Sb_) (x:Sc_) (s:Sl_):AV (fillF p a x s)+400*und1 (fillF p a x s)<=AV s+400*und1 s/\(fillF p a x s).body.size<=s.body.size+400/\(s.body.size<=2000000->(fillF p a x s).body.size<=2000000):=by
 unfold fillF;split
 ·unfold fillS;split
  ·exact⟨Qa9 _,o_,id⟩
  ·rename_i h;have hu:=K6 p.bj (reqOf p s) x;refine⟨?_,by dsimp only;omega,λ_=>by dsimp only;omega⟩;unfold und1 AV;dsimp only;rw[Qa3 rfl,Qa5 h];omega
 ·exact⟨Qa9 _,o_,id⟩
def VE (p:Sa_) (a:Sb_) (x:Sc_):∀ l:List Sl_,szL AV (l.map (fillF p a x))+400*undS (l.map (fillF p a x))<=szL AV l+400*undS l
 | []=>Qa9 _
 | s::l=>by have h:=VE p a x l;have h1:=(VM p a x s).1;rw[Qd0,Ah,Ah,undS,undS];unfold und1 at h1;omega
def Ae6 (l:List Sl_) (i:Nat):undS (l.take i)+undS (l.drop i)=undS l:=by rw[<-Nj,Qd9]
def OG {p:Sa_} {Q M R:Nat} (h:okAll p Q M R) (a:Sb_) (x:Sc_) (i:Nat):okAll (fillTo p a x i) Q M R:=by
 obtain⟨h1,h2,⟨h3,h4⟩,h5,h6,h7⟩:=h;refine⟨h1,h2,⟨?_,λs hs=>?_⟩,h5,h6,h7⟩
 ·unfold slotP at *
  have e1:=Abk AV p.bf i;have e2:=Ae6 p.bf i;have e3:=VE p a x (p.bf.take i);have e4:((p.bf.take i).map (fillF p a x)++p.bf.drop i).length=p.bf.length:=by rw[Qa1,Qf2,<-Qa1,Qd9]
  show szL AV ((p.bf.take i).map (fillF p a x)++p.bf.drop i)+400*undS ((p.bf.take i).map (fillF p a x)++p.bf.drop i)+500000800*(20-((p.bf.take i).map (fillF p a x)++p.bf.drop i).length)<=_;rw[CE,Nj,e4];omega
 ·rcases Qb8.1 hs with q|q
  ·obtain⟨s0,q0,rfl⟩:=Qg1.1 q;exact(VM p a x s0).2.2 (h4 s0 (List.mem_of_mem_take q0))
  ·exact h4 s (List.mem_of_mem_drop q)
def VN (p:Sa_) (a:Sb_) (x:Sc_):fillTo p a x 0=p:=rfl
def JY {p:Sa_} {a:Sb_} {x:Sc_} {i:Nat} (h:p.bf.length<=i):fillTo p a x i=fillAll p a x:=by
 unfold fillTo fillAll;rw[Qb9 h,Qb2 h,Qd7]
def XQ (p:Sa_) (a:Sb_) (x:Sc_) (i:Nat):(fillTo p a x i).bf.length=p.bf.length:=by
 show((p.bf.take i).map (fillF p a x)++p.bf.drop i).length=_;rw[Qa1,Qf2,<-Qa1,Qd9]
def OZ {p:Sa_} {a:Sb_} {x:Sc_} {i:Nat} (h:i<p.bf.length):fillTo p a x (i+1)={ p with bf:=(p.bf.take i).map (fillF p a x)++fillF p a x (p.bf.getD i default)::p.bf.drop (i+1)}:=by
 unfold fillTo;rw[take_succ h,List.map_append,Qb5];rfl
def OY {p:Sa_} {a:Sb_} {x:Sc_} {i:Nat} (h:i<p.bf.length) (hs:¬ (p.bf.getD i default).to=a\/(p.bf.getD i default).done=true):fillTo p a x (i+1)=fillTo p a x i:=by
 have e:fillF p a x (p.bf.getD i default)=p.bf.getD i default:=by
  unfold fillF;rcases hs with hs|hs
  ·rw[Qa5 hs]
  ·split
   ·unfold fillS;rw[Qa3 hs]
   ·rfl
 rw[OZ h,e,<-drop_cons h];rfl
def AaM {p:Sa_} {a:Sb_} {x:Sc_} {i:Nat} (h:i<p.bf.length) (hs:(p.bf.getD i default).to=a):fillSlot (fillTo p a x i) (i:Int) x=fillTo p a x (i+1):=by
 unfold fillSlot;rw[XQ,Qa3 o_,OZ h];have e:fillF p a x (p.bf.getD i default)=fillS p x (p.bf.getD i default):=by unfold fillF;rw[Qa3 hs]
 have el:((p.bf.take i).map (fillF p a x)).length=i:=by rw[Qf2,Qc2];omega
 show({ p with bf:=((p.bf.take i).map (fillF p a x)++p.bf.drop i).modify (i:Int).toNat (fillS p x)}:Sa_)=_;have:=T7 (fillS p x) (p.bf.getD i default) (p.bf.drop (i+1)) ((p.bf.take i).map (fillF p a x));rw[el] at this;rw[drop_cons h,Qg2,this,e]
def CP {p:Sa_} (h:okAdv p):Ag p<=1000000000000/\AM p.bj+szAddr p.addr<=4000000/\p.bf.length<=100000000000/\(∀ i,i<p.bf.length->AV (p.bf.getD i default)<=50000000000)/\p.bh.length<=60000000000/\okMb p:=by
 obtain⟨Q,M,R,h1,h2,h3,h4⟩:=h;have hz:=J2 h1 o_ h3 h4;have hs:szL AV p.bf<=13000000000:=by have:=h1.2.2.1.1;unfold slotP at this;omega
 have hm:szL AJ p.bh<=50000000000:=by have:=h1.2.2.2.1.2.1;unfold modP at this;omega
 have l1:=Ab AV p.bf;have l2:=Ab AJ p.bh;refine⟨hz,h1.2.2.2.2.2.1,o_,λi hi=>?_,o_,λi hi=>?_⟩
 ·have:=C6 AV hi;omega
 ·have:=h1.2.2.2.1.2.2.2 _ (AN hi);omega
def Qu {p:Sa_} (h:okAdv p) (a:Sb_) (x:Sc_) (i:Nat):okAdv (fillTo p a x i):=by
 obtain⟨Q,M,R,h1,h2⟩:=h;exact⟨Q,M,R,OG h1 a x i,h2⟩
def PO {p:Sa_} {a:Sb_} {x:Sc_} {k:Int} (h0:0<=k) (h:k<p.bf.length) (hs:(p.bf.getD k.toNat default).to=a):fillSlot (fillTo p a x k.toNat) k x=fillTo p a x (k.toNat+1):=by
 obtain⟨i,rfl⟩:∃ i:Nat,k=i:=⟨k.toNat,o_⟩;exact AaM o_ hs
abbrev LP:Fct:=⟨[.v (.el .page),.v (.el .addr),.v (.el .bd)],[.el .page],λ(x_:Ty134_)=>okAdv x_.1/\x_.2.2.1.bj.size<=200000000/\x_.2.2.1.body.size<=1000000000,λ(x_:Ty134_)=>(fillAll x_.1 x_.2.1 x_.2.2.1,())⟩
abbrev EX (p:Sa_) (a:Sb_) (x:Sc_):LInv:=⟨[⟨.b,7,true,.el .page⟩,⟨.s,8,true,.el .int⟩,⟨.b,3,false,.el .page⟩,⟨.b,4,true,.el .addr⟩,⟨.b,5,true,.el .bd⟩,⟨.b,6,true,.el .page⟩],λ(z_ x_:Ty135_)=>((((0<=x_.2.1/\x_.2.1<=p.bf.length/\x_.1=fillTo p a x x_.2.1.toNat)/\x_.2.2.1=z_.2.2.1)/\x_.2.2.2.1=z_.2.2.2.1)/\x_.2.2.2.2.1=z_.2.2.2.2.1)/\x_.2.2.2.2.2.1=z_.2.2.2.2.2.1,λ(x_:Ty135_)=>p.bf.length-x_.2.1.toNat⟩
def Ai2:=AlZ.a LP<|Fct.p (KP [3,4,5,6,7,8] [15,34]) (λ⟨p,a,x,_⟩=>lv [(3,EX p a x)]) AlZ.2 func161 (by
 rintro⟨(p:Sa_),(a:Sb_),(x:Sc_),_⟩ hp;refine ho (.cl AC (p,()) λz2=>lpx (EX p a x) (z2.1,((0:Int),(p,(a,(x,(default,())))))) λ(y2:Ty135_) bk2=>let q2_:=inB y2.2.1 y2.2.2.1.bf.length;let q1_:=y2.2.2.1.bf.getD y2.2.1.toNat default;let q0_:Out:=.bk (bk2 (y2.1,(w1 y2.2.1,(y2.2.2.1,(y2.2.2.2.1,(y2.2.2.2.2.1,(y2.2.2.2.2.2.1,())))))));.br (decide (y2.2.1<(y2.2.2.1.bf.length:Int))) (.ob q2_<|.br (!q1_.done) (.ob q2_<|.br (q1_.to.host==y2.2.2.2.1.host&&(q1_.to.path==y2.2.2.2.1.path&&true)) (.cl GV (y2.1,y2.2.1,y2.2.2.2.2.1,()) λz3=>.bk (bk2 (z3.1,(w1 y2.2.1,(y2.2.2.1,(y2.2.2.2.1,(y2.2.2.2.2.1,(y2.2.2.2.2.2.1,())))))))) q0_) q0_) (.lf LP (y2.1,()))) ?_;refine Af ?_ λ_=>(Au ?_ λ(y2:Ty135_) i2=>Aa (λh3=>Ac ?_ λ_=>Aa (λh5=>Ac ?_ λ_=>Aa (λh7=>Af ?_ λ_=>(A8 ?_)) (λh7=>A8 ?_)) (λh5=>A8 ?_)) (λh3=>lfY ?_))
 all_goals obtain⟨q1,q2,q3⟩:=(show okAdv p/\x.bj.size<=200000000/\x.body.size<=1000000000 from hp)
 all_goals
  have hok:=CP q1;try simp only[std,Nat.reduceAdd] at *
 all_goals first|trivial|omega|exact⟨o_,o_,(VN p a x).symm⟩|skip
 all_goals (obtain⟨⟨⟨⟨⟨a1,a2,a3⟩,e1⟩,e2⟩,e3⟩,e4⟩:=i2;simp only[a3,e1,e2,e3,Ea,Qa8,Qb3] at *)
 all_goals first|trivial|omega|(rw[JY o_])|skip
 all_goals
  have hk:=CP (Qu q1 a x y2.2.1.toNat);have hh:(fillTo p a x y2.2.1.toNat).addr.host.size<=4000000:=by have:=hk.2.1;simp only[szAddr] at this;omega
 all_goals first|exact⟨hk.1,o_,hk.2.2.2.1,o_,o_,q2,q3⟩|skip
 all_goals rw[Al o_,show(y2.2.1+1).toNat=y2.2.1.toNat+1 from o_]
 all_goals first|(rw[PO a1 o_ ‹_›];exact⟨⟨⟨⟨⟨⟨o_,o_,rfl⟩,by trivial⟩,by trivial⟩,by trivial⟩,e4⟩,o_⟩)|(rw[OY o_ (by first|exact .inl ‹_›|exact .inr ‹_›)];exact⟨⟨⟨⟨⟨⟨o_,o_,rfl⟩,by trivial⟩,by trivial⟩,by trivial⟩,e4⟩,o_⟩)|skip)
abbrev Fa (p:Sa_) (a:Sb_) (x:Sc_):LInv:=⟨[⟨.b,7,true,.el .page⟩,⟨.s,14,true,.el .int⟩,⟨.b,3,false,.el .page⟩,⟨.b,4,true,.el .addr⟩,⟨.b,5,true,.el .bd⟩,⟨.b,6,true,.el .page⟩],λ(z_ x_:Ty135_)=>((((0<=x_.2.1/\x_.2.1<=p.bf.length/\x_.1=fillTo p a x x_.2.1.toNat)/\x_.2.2.1=z_.2.2.1)/\x_.2.2.2.1=z_.2.2.2.1)/\x_.2.2.2.2.1=z_.2.2.2.2.1)/\x_.2.2.2.2.2.1=z_.2.2.2.2.2.1,λ(x_:Ty135_)=>p.bf.length-x_.2.1.toNat⟩
def AjZ:=Ai2.a LP<|Fct.p (KP [3,4,5,6,7,8,13,14] [15,24]) (λ⟨p,a,x,_⟩=>lv [(3,Fa p a x)]) Ai2.2 func130 (by
 rintro⟨(p:Sa_),(a:Sb_),(x:Sc_),_⟩ hp;refine ho (.cl AC (p,()) λz2=>lpx (Fa p a x) (z2.1,((0:Int),(p,(a,(x,(default,())))))) λ(y2:Ty135_) bk2=>.br (decide (y2.2.1<(p.bf.length:Int))) (.ob (inB y2.2.1 y2.2.2.1.bf.length)<|.br ((y2.2.2.1.bf.getD y2.2.1.toNat default).to.host==y2.2.2.2.1.host&&((y2.2.2.1.bf.getD y2.2.1.toNat default).to.path==y2.2.2.2.1.path&&true)) (.cl GV (y2.1,y2.2.1,y2.2.2.2.2.1,()) λz3=>.re (Value.int IntKind.i64 (p.bf.length:Int))<|.bk (bk2 (z3.1,(w1 y2.2.1,(y2.2.2.1,(y2.2.2.2.1,(y2.2.2.2.2.1,(y2.2.2.2.2.2.1,())))))))) (.re (Value.int IntKind.i64 (p.bf.length:Int))<|.bk (bk2 (y2.1,(w1 y2.2.1,(y2.2.2.1,(y2.2.2.2.1,(y2.2.2.2.2.1,(y2.2.2.2.2.2.1,()))))))))) (.lf LP (y2.1,()))) ?_;refine Af ?_ λ_=>(Au ?_ λ(y2:Ty135_) i2=>Aa (λh3=>Ac ?_ λ_=>Aa (λh5=>Af ?_ λ_=>(An<|A8 ?_)) (λh5=>An<|A8 ?_)) (λh3=>lfY ?_))
 all_goals obtain⟨q1,q2,q3⟩:=(show okAdv p/\x.bj.size<=200000000/\x.body.size<=1000000000 from hp)
 all_goals
  have hok:=CP q1;try simp only[std,Nat.reduceAdd] at *
 all_goals first|trivial|omega|exact⟨o_,o_,(VN p a x).symm⟩|skip
 all_goals (obtain⟨⟨⟨⟨⟨a1,a2,a3⟩,e1⟩,e2⟩,e3⟩,e4⟩:=i2;simp only[a3,e1,e2,e3,Ea,Qa8,Qb3] at *)
 all_goals first|trivial|omega|(rw[JY o_])|skip
 all_goals
  have hk:=CP (Qu q1 a x y2.2.1.toNat);have hh:(fillTo p a x y2.2.1.toNat).addr.host.size<=4000000:=by have:=hk.2.1;simp only[szAddr] at this;omega
 all_goals first|exact⟨hk.1,o_,hk.2.2.2.1,o_,o_,q2,q3⟩|skip
 all_goals rw[Al o_,show(y2.2.1+1).toNat=y2.2.1.toNat+1 from o_]
 all_goals first|(rw[PO a1 o_ ‹_›];exact⟨⟨⟨⟨⟨⟨o_,o_,rfl⟩,by trivial⟩,by trivial⟩,by trivial⟩,e4⟩,o_⟩)|(rw[OY o_ (by first|exact .inl ‹_›|exact .inr ‹_›)];exact⟨⟨⟨⟨⟨⟨o_,o_,rfl⟩,by trivial⟩,by trivial⟩,by trivial⟩,e4⟩,o_⟩)|skip)
def fillM (p:Sa_) (x:Sc_) (m:Sf_):Sf_:={ m with done:=true,code:=checkResponse p.bj ⟨5,m.to,p.addr.host,⟨#[]⟩⟩ x,body:=(usable p.bj ⟨5,m.to,p.addr.host,⟨#[]⟩⟩ x).1 }
def fillM0 (p:Sa_) (a:Sb_) (x:Sc_):Sa_:={ p with bh:=p.bh.modify (findMod p.bh a).toNat (fillM p x)}
def fillModule (p:Sa_) (a:Sb_) (x:Sc_):Sa_:=if findMod p.bh a<0\/(p.bh.getD (findMod p.bh a).toNat default).done=true then p else(imports (fillM0 p a x) a).1.foldl askModule (fillM0 p a x)
def O8 {p:Sa_} {Q M R:Nat} (h:okAll p Q M R) (a:Sb_) (x:Sc_) (h0:0<=findMod p.bh a) (hd:(p.bh.getD (findMod p.bh a).toNat default).done=false):okAll (fillM0 p a x) Q M R:=by
 have hf:=BW p.bh a;have hi:(findMod p.bh a).toNat<p.bh.length:=o_
 obtain⟨h1,h2,h3,⟨h4,h5,h6,h7⟩,h8⟩:=h;have hu:=K6 p.bj ⟨5,(p.bh.getD (findMod p.bh a).toNat default).to,p.addr.host,⟨#[]⟩⟩ x;have e:=Hx (fillM p x) hi;have t1:=Abk AJ p.bh (findMod p.bh a).toNat;have t2:=AbC p.bh (findMod p.bh a).toNat;have t3:=Ad0 p.ran p.bh (findMod p.bh a).toNat;rw[drop_cons hi] at t1 t2 t3;rw[Ah] at t1;rw[undM,hd,Qa5 (by decide)] at t2;rw[nrL] at t3;refine⟨h1,h2,h3,⟨h4,?_,?_,λm hm=>?_⟩,h8⟩
 ·unfold modP at *
  show szL AJ (p.bh.modify (findMod p.bh a).toNat (fillM p x))+500*undM (p.bh.modify (findMod p.bh a).toNat (fillM p x))+600*(20-p.bg.length)<=M;rw[e,CE,Ah,Nt,undM];have e1:AJ (fillM p x (p.bh.getD (findMod p.bh a).toNat default))<=AJ (p.bh.getD (findMod p.bh a).toNat default)+400:=by unfold AJ fillM;dsimp only;omega
  have e2:(fillM p x (p.bh.getD (findMod p.bh a).toNat default)).done=true:=rfl;rw[Qa3 e2];omega
 ·unfold ranP at *
  show szL szAddr p.ran+nrL p.ran (p.bh.modify (findMod p.bh a).toNat (fillM p x))+100*(20-p.bg.length)<=R;rw[e,Rf,nrL];have e3:(fillM p x (p.bh.getD (findMod p.bh a).toNat default)).to=(p.bh.getD (findMod p.bh a).toNat default).to:=rfl;rw[e3];omega
 ·have hm:m∈p.bh.modify (findMod p.bh a).toNat (fillM p x):=hm;rw[e] at hm;rcases Qb8.1 hm with q|q
  ·exact h7 m (List.mem_of_mem_take q)
  ·rcases Qd2.1 q with q|q
   ·rw[q];exact Qd1 hu (by decide)
   ·exact h7 m (List.mem_of_mem_drop q)
def Aeu {p:Sa_} {Q M R:Nat} (h:okAll p Q M R) {b:Sb_} (hb:b.host.size<=8/\b.path.size<=8):okAll (askModule p b) Q (M+600) (R+20):=by
 obtain⟨h1,h2,h3,⟨h4,h5,h6,h7⟩,h8⟩:=h;obtain⟨a1,a2,a3,a4,a5⟩:=Aee p b;have hs:szAddr b<=16:=by unfold szAddr;omega
 rw[a5];refine⟨h1,h2,h3,⟨h4,?_,?_,λm hm=>?_⟩,h8⟩
 ·unfold modP at *;dsimp only;omega
 ·unfold ranP at *;dsimp only;omega
 ·rcases a4 m hm with q|q
  ·exact h7 m q
  ·omega
def UV {Q:Nat}:∀ (l:List Sb_) (p:Sa_) (M R:Nat),okAll p Q M R->(∀ b,b∈l->b.host.size<=8/\b.path.size<=8)->okAll (l.foldl askModule p) Q (M+600*l.length) (R+20*l.length)
 | [],p,M,R,h,_=>h
 | b::l,p,M,R,h,hb=>by
  have:=UV l (askModule p b) (M+600) (R+20) (Aeu h (hb b Qd3)) λc hc=>hb c (Qc3 _ hc)
  rw[List.foldl_cons,Qa7];rw[show M+600*(l.length+1)=M+600+600*l.length from o_,show R+20*(l.length+1)=R+20+20*l.length from o_];exact this
def IN (p:Sa_) (a:Sb_) (x:Sc_) (h0:0<=findMod p.bh a):findMod (fillM0 p a x).bh a=findMod p.bh a/\(fillM0 p a x).bh.getD (findMod p.bh a).toNat default=fillM p x (p.bh.getD (findMod p.bh a).toNat default):=by
 have hf:=BW p.bh a;have hi:(findMod p.bh a).toNat<p.bh.length:=o_
 have gen:∀ (l:List Sf_) (k:Int) (i:Nat) (f:Sf_->Sf_),(∀ m,(f m).to=m.to)->fidx (λm:Sf_=>decide (m.to=a)) (l.modify i f) k=fidx (λm:Sf_=>decide (m.to=a)) l k:=by
  intro l
  induction l with
  | nil=>intro k i f hf;cases i<;>rfl
  | cons m l ih=>
   intro k i f hf;cases i with
   | zero=>
    show fidx _ (f m::l) k=_;rw[fidx,fidx,hf m]
   | succ i=>
    show fidx _ (m::l.modify i f) k=_;rw[fidx,fidx,ih (k+1) i f hf]
 refine⟨gen p.bh 0 _ _ λ_=>rfl,?_⟩;show(p.bh.modify (findMod p.bh a).toNat (fillM p x)).getD (findMod p.bh a).toNat default=_;rw[Hx _ hi];have e:(p.bh.take (findMod p.bh a).toNat).length=(findMod p.bh a).toNat:=by rw[Qc2];omega
 rw[Qb0,Qb6 o_,e,Nat.sub_self];rfl
def LZ {p:Sa_} {a:Sb_} {x:Sc_} (h0:0<=findMod p.bh a):(∀ b,b∈(imports (fillM0 p a x) a).1->b.host.size<=8/\b.path.size<=8)/\(imports (fillM0 p a x) a).1.length<=400:=by
 obtain⟨h1,h2⟩:=Fv (fillM0 p a x) a;refine⟨h1,?_⟩;obtain⟨f1,f2⟩:=IN p a x h0;rw[f1,f2] at h2;have hu:=K6 p.bj ⟨5,(p.bh.getD (findMod p.bh a).toNat default).to,p.addr.host,⟨#[]⟩⟩ x;rcases h2 with h2|⟨_,h2⟩
 ·rw[h2];exact Nat.zero_le _
 ·exact Qd1 h2 hu
def QY {p:Sa_} {Q M R:Nat} (h:okAll p Q M R) (a:Sb_) (x:Sc_):okAll (fillModule p a x) Q (M+240000) (R+8000):=by
 have mono:∀ {q:Sa_} {M' R':Nat},okAll q Q M' R'->M'<=M+240000->R'<=R+8000->okAll q Q (M+240000) (R+8000):=λh hM hR=>by obtain⟨h1,h2,h3,⟨h4,h5,h6,h7⟩,h8⟩:=h;exact⟨h1,h2,h3,⟨h4,o_,o_,h7⟩,h8⟩
 unfold fillModule;split
 ·exact mono h o_ o_
 ·rename_i hc;have h0:0<=findMod p.bh a:=o_
  have hd:(p.bh.getD (findMod p.bh a).toNat default).done=false:=by
   cases hq:(p.bh.getD (findMod p.bh a).toNat default).done with
   | false=>rfl
   | true=>exact absurd (.inr hq) hc
  obtain⟨i1,i2⟩:=LZ (x:=x) h0;exact mono (UV _ _ M R (O8 h a x h0 hd) i1) o_ o_
def fmInv (p:Sa_) (a:Sb_) (x:Sc_) (q:Sa_) (i:Int):Prop:=0<=i/\i<=(imports (fillM0 p a x) a).1.length/\((imports (fillM0 p a x) a).1.drop i.toNat).foldl askModule q=(imports (fillM0 p a x) a).1.foldl askModule (fillM0 p a x)/\∃ Q M R,okAll q Q (M+600*i.toNat) (R+20*i.toNat)/\Q<=899000000000/\M<=49000000000/\R<=19000000000
def okFM (p:Sa_):Prop:=∃ Q M R,okAll p Q M R/\Q<=899000000000/\M<=49000000000/\R<=19000000000
def Ff {p:Sa_} (h:okFM p):okAdv p:=by
 obtain⟨Q,M,R,h1,h2,h3,h4⟩:=h;exact⟨Q,M,R,h1,h2,o_,o_⟩
def LB {p q:Sa_} {a:Sb_} {x:Sc_} {i:Int} (h:fmInv p a x q i) (hi:(imports (fillM0 p a x) a).1.length<=400):okAdv q:=by
 obtain⟨h1,h2,_,Q,M,R,h3,h4,h5,h6⟩:=h;exact⟨Q,_,_,h3,h4,o_,o_⟩
def O5 {p:Sa_} {a:Sb_} {x:Sc_} (h:okFM p) (h0:0<=findMod p.bh a) (hd:(p.bh.getD (findMod p.bh a).toNat default).done=false):fmInv p a x (fillM0 p a x) 0:=by
 obtain⟨Q,M,R,h1,h2⟩:=h;exact⟨o_,o_,rfl,Q,M,R,O8 h1 a x h0 hd,h2⟩
def Wt {p q:Sa_} {a:Sb_} {x:Sc_} {i:Int} (h:fmInv p a x q i) (h0:0<=findMod p.bh a) (hi:i<(imports (fillM0 p a x) a).1.length):fmInv p a x (askModule q ((imports (fillM0 p a x) a).1.getD i.toNat default)) (i+1):=by
 obtain⟨h1,h2,h3,Q,M,R,h4,h5⟩:=h;have hb:=(LZ (x:=x) h0).1 _ (AN (show i.toNat<(imports (fillM0 p a x) a).1.length from o_));rw[drop_cons (show i.toNat<(imports (fillM0 p a x) a).1.length from o_),List.foldl_cons] at h3;refine⟨o_,o_,by rw[show(i+1).toNat=i.toNat+1 from o_];exact h3,Q,M,R,?_,h5⟩;have:=Aeu h4 hb;rw[show(i+1).toNat=i.toNat+1 from o_,show M+600*(i.toNat+1)=M+600*i.toNat+600 from o_,show R+20*(i.toNat+1)=R+20*i.toNat+20 from o_];exact this
def SV {p q:Sa_} {a:Sb_} {x:Sc_} {i:Int} (h:fmInv p a x q i) (h0:0<=findMod p.bh a) (hd:(p.bh.getD (findMod p.bh a).toNat default).done=false) (hi:(imports (fillM0 p a x) a).1.length<=i):q=fillModule p a x:=by
 have e:=h.2.2.1;rw[Qb2 o_] at e;unfold fillModule;rw[Qa5 (by rintro(q|q);exact absurd q o_;rw[hd] at q;cases q)];exact e
def ND {p:Sa_} {k:Int} (h0:0<=k) (h:k<p.bh.length):modRequest p k=⟨5,(p.bh.getD k.toNat default).to,p.addr.host,⟨#[]⟩⟩:=by unfold modRequest;rw[Qa3 ⟨h0,h⟩]
def Ag3 {p:Sa_} {a:Sb_} {x:Sc_} (h0:0<=findMod p.bh a):(((p.bh.modify (findMod p.bh a).toNat λz=>(⟨z.to,true,z.code,z.body⟩:Sf_)).modify (findMod p.bh a).toNat λz=>(⟨z.to,z.done,checkResponse p.bj (modRequest p (findMod p.bh a)) x,z.body⟩:Sf_)).modify (findMod p.bh a).toNat λz=>(⟨z.to,z.done,z.code,(usable p.bj (modRequest p (findMod p.bh a)) x).1⟩:Sf_))=(fillM0 p a x).bh:=by
 have hf:=BW p.bh a;have hi:(findMod p.bh a).toNat<p.bh.length:=o_
 rw[Iw,Iw];show _=p.bh.modify (findMod p.bh a).toNat (fillM p x);rw[Hx _ hi,Hx _ hi,ND h0 hf.1];rfl
def fmp (p:Sa_) (a:Sb_) (x:Sc_):(⟨p.addr,p.bj,p.tok,p.bn,p.ended,p.ba,p.bf,(fillM0 p a x).bh,p.bg,p.block,p.inline,p.bm,p.bq,p.ran,p.log,p.loaded⟩:Sa_)=fillM0 p a x:=rfl
def Agk (p:Sa_) (a:Sb_) (x:Sc_):(fillM0 p a x).bh.length=p.bh.length:=Qg4 ..
def Sv {p:Sa_} (h:okAdv p) {k:Int} (h0:0<=k) (hk:k<p.bh.length):BJ (modRequest p k)<=60000000000:=by
 obtain⟨Q,M,R,h1,h2,h3,h4⟩:=h;have hm:szL AJ p.bh<=50000000000:=by have:=h1.2.2.2.1.2.1;unfold modP at this;omega
 have:=C6 AJ (l:=p.bh) (i:=k.toNat) o_;have ha:=h1.2.2.2.2.2.1;have hz:ByteArray.size ⟨#[]⟩=0:=rfl;rw[ND h0 hk];simp only[AJ,BJ,szAddr,hz] at *;omega
def Aic {p:Sa_} {a:Sb_} {x:Sc_} (h0:0<=findMod p.bh a) (hc:((fillM0 p a x).bh.getD (findMod p.bh a).toNat default).code=1):(parseModule ((fillM0 p a x).bh.getD (findMod p.bh a).toNat default).body a.host).1=(imports (fillM0 p a x) a).1:=by
 have hF:=IN p a x h0;have:=MY (p:=fillM0 p a x) (a:=a) (by rw[hF.1];exact h0) (by rw[hF.1,hF.2];rfl) (by rw[hF.1];exact hc);rw[hF.1] at this;exact this
def Anl {p:Sa_} {a:Sb_} {x:Sc_} (h0:0<=findMod p.bh a) (hd:(p.bh.getD (findMod p.bh a).toNat default).done=false) (hc:¬ ((fillM0 p a x).bh.getD (findMod p.bh a).toNat default).code=1):fillM0 p a x=fillModule p a x:=by
 have hF:=IN p a x h0;unfold fillModule;rw[Qa5 (by rintro(q|q);exact absurd q o_;rw[hd] at q;cases q),Mz (.inr (.inr (by rw[hF.1];exact hc)))];rfl
abbrev DY:Fct:=⟨[.v (.el .page),.v (.el .addr),.v (.el .bd)],[.el .page],λ(x_:Ty134_)=>okFM x_.1/\szAddr x_.2.1<=4000000000/\x_.2.2.1.bj.size<=200000000/\x_.2.2.1.body.size<=1000000000,λ(x_:Ty134_)=>(fillModule x_.1 x_.2.1 x_.2.2.1,())⟩
abbrev BY (p:Sa_) (a:Sb_) (x:Sc_):LInv:=⟨[⟨.b,7,true,.el .page⟩,⟨.s,12,true,.el .int⟩,⟨.b,6,true,.el .page⟩,⟨.s,10,true,.sl .addr⟩],λ(z_ x_:Ty124_)=>((fmInv p a x x_.1 x_.2.1)/\x_.2.2.1=z_.2.2.1)/\x_.2.2.2.1=z_.2.2.2.1,λ(x_:Ty124_)=>(imports (fillM0 p a x) a).1.length-x_.2.1.toNat⟩
def AmM:=AjZ.a DY<|Fct.p (KP [3,4,5,6,7,8,9,10,12] [27,69]) (λ⟨p,a,x,_⟩=>lv [(11,BY p a x)]) AjZ.2 func160 (by
 rintro⟨(p:Sa_),(a:Sb_),(x:Sc_),_⟩ hp;refine ho (let q2_:=List Sf_;.cl AC (p,()) λz2=>let q1_:Out:=.lf DY (z2.1,());.cl Hd (p,a,()) λ(z3:Ty3_)=>.br (decide (z3.1<0)) q1_ (.ob (inB z3.1 p.bh.length)<|.br ((p.bh.getD z3.1.toNat default).done) q1_ (.cl Bz (p,z3.1,()) λz4=>.ix z3.1 z2.1.bh.length<|.lt q2_ (z2.1.bh.modify z3.1.toNat λz=>({z with done:=true}:Sf_)) λz5=>.cl Aq (p.bj,z4.1,x,()) λ(z6:Ty3_)=>.ix z3.1 z5.length<|.lt q2_ (z5.modify z3.1.toNat λz=>({z with code:=z6.1}:Sf_)) λz7=>.cl C1 (p.bj,z4.1,x,()) λz8=>.ix z3.1 z7.length<|.lt q2_ (z7.modify z3.1.toNat λz=>({z with body:=z8.1}:Sf_)) λz9=>let q0_:=({z2.1 with bh:=z9}:Sa_);.cl H5 (q0_,a,()) λz10=>lpx (BY p a x) (q0_,((0:Int),(default,(z10.1,())))) λ(y16:Ty124_) bk16=>.br (decide (y16.2.1<(y16.2.2.2.1.length:Int))) (.ix y16.2.1 y16.2.2.2.1.length<|.cl Bu (y16.1,y16.2.2.2.1.getD y16.2.1.toNat default,()) λz11=>.re (Value.int IntKind.i64 z3.1)<|.bk (bk16 (z11.1,(w1 y16.2.1,(y16.2.2.1,(y16.2.2.2.1,())))))) (.lf DY (y16.1,()))))) ?_;repeat' (guard_target =~ Out.holds _ _;first|refine Au (li:=BY p a x) ?_ λ(y16:Ty124_) i16=>?_|refine lfY ?_|refine Aa (λ_=>?_) λ_=>?_|refine Af ?_ λ_=>?_|refine Ac ?_ λ_=>?_|refine DW ?_|refine A8 ?_|refine An ?_|refine Er ?_ λ_ _=>?_)
 all_goals obtain⟨q1,q0,q2,q3⟩:=(show okFM p/\szAddr a<=4000000000/\x.bj.size<=200000000/\x.body.size<=1000000000 from hp)
 all_goals
  have hok:=CP (Ff q1);have hf:=BW p.bh a;try simp only[Kk] at *
  try simp only[std,Nat.reduceAdd,Kn] at *
 all_goals first|trivial|omega|skip
 all_goals first|(unfold fillModule;rw[Qa3 (by first|exact .inl ‹_›|exact .inr ‹_›)];done)|skip
 all_goals
  have h0:0<=findMod p.bh a:=o_
  have hd:(p.bh.getD (findMod p.bh a).toNat default).done=false:=‹_›
  have hq:=Sv (Ff q1) h0 hf.1;have hI:=LZ (x:=x) h0;have hA:=LB (O5 (x:=x) q1 h0 hd) hI.2;have hB:=CP hA;try simp only[Ag3 h0,fmp,Agk,Qg4] at *
 all_goals first|trivial|omega|exact⟨o_,o_,q2,q3⟩|exact⟨o_,hB.2.2.2.2.2,by simp only[szAddr] at q0;omega⟩|exact O5 q1 h0 hd|skip
 all_goals (obtain⟨⟨i1,e1⟩,e2⟩:=i16;simp only[e2] at *;have hi0:=i1.1;have hi1:=i1.2.1)
 all_goals first|trivial|omega|(rw[SV i1 h0 hd o_];done)|skip
 all_goals
  have hj:=CP (LB i1 hI.2);have hb:=hI.1 _ (AN (show y16.2.1.toNat<(imports (fillM0 p a x) a).1.length from o_))
 all_goals first|exact⟨o_,by have h7:=hj.2.1;simp only[szAddr] at h7;omega,by simp only[szAddr];omega⟩|(rw[Al o_];exact⟨⟨⟨Wt i1 h0 o_,e1⟩,trivial⟩,o_⟩)|skip)
abbrev C2 (p:Sa_) (a:Sb_) (x:Sc_):LInv:=⟨[⟨.b,7,true,.el .page⟩,⟨.s,84,true,.el .int⟩,⟨.b,6,true,.el .page⟩,⟨.s,82,true,.sl .addr⟩],λ(z_ x_:Ty124_)=>((fmInv p a x x_.1 x_.2.1)/\x_.2.2.1=z_.2.2.1)/\x_.2.2.2.1=z_.2.2.2.1,λ(x_:Ty124_)=>(imports (fillM0 p a x) a).1.length-x_.2.1.toNat⟩
def Alf:=AmM.a DY<|Fct.p (KP [3,4,5,6,7,8,9,10,14,82,83,84] [29,68,85]) (λ⟨p,a,x,_⟩=>lv [(12,C2 p a x)]) AmM.2 func129 (by
 rintro⟨(p:Sa_),(a:Sb_),(x:Sc_),_⟩ hp;refine ho (let q2_:=List Sf_;.cl AC (p,()) λz2=>let q0_:Out:=.lf DY (z2.1,());.cl Hd (p,a,()) λ(z3:Ty3_)=>.br (decide (z3.1<0)) q0_ (.ob (inB z3.1 p.bh.length)<|.br ((p.bh.getD z3.1.toNat default).done) q0_ (.cl Bz (p,z3.1,()) λz4=>.ix z3.1 z2.1.bh.length<|.lt q2_ (z2.1.bh.modify z3.1.toNat λz=>({z with done:=true}:Sf_)) λz5=>.cl Aq (p.bj,z4.1,x,()) λ(z6:Ty3_)=>.ix z3.1 z5.length<|.lt q2_ (z5.modify z3.1.toNat λz=>({z with code:=z6.1}:Sf_)) λz7=>.cl C1 (p.bj,z4.1,x,()) λz8=>.ix z3.1 z7.length<|.lt q2_ (z7.modify z3.1.toNat λz=>({z with body:=z8.1}:Sf_)) λz9=>let q1_:=z9.getD z3.1.toNat default;.ix z3.1 z9.length<|.br (q1_.code==1) (.ix z3.1 z9.length<|.cl BX (q1_.body,a.host,()) λz10=>let q3_:=(z10.1.length:Int);lpx (C2 p a x) (({z2.1 with bh:=z9}:Sa_),((0:Int),(default,(z10.1,())))) λ(y21:Ty124_) bk21=>.br (decide (y21.2.1<q3_)) (.ix y21.2.1 y21.2.2.2.1.length<|.cl Bu (y21.1,y21.2.2.2.1.getD y21.2.1.toNat default,()) λz11=>.re (Value.int IntKind.i64 z3.1)<|.re (Value.int IntKind.i64 q3_)<|.bk (bk21 (z11.1,(w1 y21.2.1,(y21.2.2.1,(y21.2.2.2.1,())))))) (.lf DY (y21.1,()))) (.lf DY ({z2.1 with bh:=z9},()))))) ?_;refine Af ?_ λ_=>(Af ?_ λ_=>(Aa (λh3=>lfY ?_) (λh3=>Ac ?_ λ_=>Aa (λh5=>lfY ?_) (λh5=>Af ?_ λ_=>(Er ?_ λo7 o8=>DW (Af ?_ λ_=>(Er ?_ λo10 o11=>DW (Af ?_ λ_=>(Er ?_ λo13 o14=>DW (Er ?_ λo15 o16=>Aa (λh17=>Er ?_ λo18 o19=>Af ?_ λ_=>(Au ?_ λ(y21:Ty124_) i21=>Aa (λh22=>Er ?_ λo23 o24=>Af ?_ λ_=>(An<|An<|A8 ?_)) (λh22=>lfY ?_))) (λh17=>lfY ?_)))))))))))
 all_goals obtain⟨q1,q0,q2,q3⟩:=(show okFM p/\szAddr a<=4000000000/\x.bj.size<=200000000/\x.body.size<=1000000000 from hp)
 all_goals
  have hok:=CP (Ff q1);have hf:=BW p.bh a;try simp only[Kk] at *
  try simp only[std,Nat.reduceAdd,Kn] at *
 all_goals first|trivial|omega|skip
 all_goals first|(unfold fillModule;rw[Qa3 (by first|exact .inl ‹_›|exact .inr ‹_›)];done)|skip
 all_goals
  have h0:0<=findMod p.bh a:=o_
  have hd:(p.bh.getD (findMod p.bh a).toNat default).done=false:=‹_›
  have hq:=Sv (Ff q1) h0 hf.1;have hI:=LZ (x:=x) h0;have hA:=LB (O5 (x:=x) q1 h0 hd) hI.2;have hB:=CP hA;try simp only[Ag3 h0,fmp,Agk,Qg4] at *
 all_goals first|trivial|omega|exact⟨o_,o_,q2,q3⟩|exact⟨o_,hB.2.2.2.2.2,by simp only[szAddr] at q0;omega⟩|exact O5 q1 h0 hd|skip
 all_goals first|(exact Anl h0 hd ‹_›)|(have hc:((fillM0 p a x).bh.getD (findMod p.bh a).toNat default).code=1:=by assumption)
 all_goals have hy:=Aic h0 hc
 all_goals first|exact⟨hB.2.2.2.2.2 _ (by rw[Agk];omega),by simp only[szAddr] at q0;omega⟩|exact O5 q1 h0 hd|skip
 all_goals (obtain⟨⟨i1,e1⟩,e2⟩:=i21;simp only[e2,hy] at *;have hi0:=i1.1;have hi1:=i1.2.1)
 all_goals first|trivial|omega|(rw[SV i1 h0 hd o_];done)|skip
 all_goals
  have hj:=CP (LB i1 hI.2);have hb:=hI.1 _ (AN (show y21.2.1.toNat<(imports (fillM0 p a x) a).1.length from o_))
 all_goals first|exact⟨o_,by have h7:=hj.2.1;simp only[szAddr] at h7;omega,by simp only[szAddr];omega⟩|(rw[Al o_];exact⟨⟨⟨Wt i1 h0 o_,e1⟩,trivial⟩,o_⟩)|skip)
def takeAnswer (p:Sa_) (a:Sb_) (x:Sc_):Sa_:=advance (fillModule (fillAll p a x) a x)
def So {p:Sa_} (h:okFM p) (a:Sb_) (x:Sc_):okFM (fillAll p a x):=by
 obtain⟨Q,M,R,h1,h2⟩:=h;have:=OG h1 a x p.bf.length;rw[JY (Qa9 _)] at this;exact⟨Q,M,R,this,h2⟩
def Acn {p:Sa_} (h:okFM p) (a:Sb_) (x:Sc_):okAdv (fillModule p a x):=by
 obtain⟨Q,M,R,h1,h2,h3,h4⟩:=h;exact⟨Q,_,_,QY h1 a x,h2,o_,o_⟩
abbrev CX:Fct:=⟨[.v (.el .page),.v (.el .addr),.v (.el .bd)],[.el .page],λ(x_:Ty134_)=>okFM x_.1/\szAddr x_.2.1<=4000000000/\x_.2.2.1.bj.size<=200000000/\x_.2.2.1.body.size<=1000000000,λ(x_:Ty134_)=>(takeAnswer x_.1 x_.2.1 x_.2.2.1,())⟩
theorem q6 (p:Sa_) (a:Sb_) (x:Sc_) (hp:CX.pre (p,a,x,())):Out.holds (CX.ctr (p,a,x,())).post (.cl LP (p,a,x,()) λz2=>.cl DY (z2.1,a,x,()) λz3=>.cl Em (z3.1,()) λz4=>.lf CX (z4.1,())):=by
 refine Af ?_ λ_=>(Af ?_ λ_=>(Af ?_ λ_=>(lfY ?_)))
 all_goals obtain⟨q1,q0,q2,q3⟩:=(show okFM p/\szAddr a<=4000000000/\x.bj.size<=200000000/\x.body.size<=1000000000 from hp)
 all_goals try simp only[std,Nat.reduceAdd] at *
 all_goals first|exact⟨Ff q1,q2,q3⟩|exact⟨So q1 a x,q0,q2,q3⟩|exact Acn (So q1 a x) a x|rfl|trivial
def Ajb:=Alf.a CX<|Fct.o [3,4,5,6] Alf.2 func70 (by
 rintro⟨(p:Sa_),(a:Sb_),(x:Sc_),_⟩ hp;exact ho _ (q6 p a x hp))
def Akz:=Ajb.a CX<|Fct.o [3,4,5,6] Ajb.2 func46 (by
 rintro⟨(p:Sa_),(a:Sb_),(x:Sc_),_⟩ hp;exact ho _ (q6 p a x hp))
def nextNeeds (p:Sa_):List Sg_:=(openSlots p).map (slotRequest p)++(openMods p).map (modRequest p)
def WI {p:Sa_} {i:Nat} (h:i<(openSlots p).length):0<=(openSlots p).getD i default/\(openSlots p).getD i default<p.bf.length:=by
 have:=Hr (λs:Sl_=>!s.done) p.bf 0 _ (AN h);unfold openSlots at *;omega
def We {p:Sa_} {i:Nat} (h:i<(openMods p).length):0<=(openMods p).getD i default/\(openMods p).getD i default<p.bh.length:=by
 have:=Hr (λs:Sf_=>!s.done) p.bh 0 _ (AN h);unfold openMods at *;omega
def PJ {α β:Type} [Inhabited α] (f:α->β) {l:List α} {i:Nat} (h:i<l.length):(l.drop i).map f=f (l.getD i default)::(l.drop (i+1)).map f:=by rw[drop_cons h];rfl
def ME {α β:Type} (f:α->β) {l:List α} {i:Nat} (h:l.length<=i):(l.drop i).map f=[]:=by rw[Qb2 h];rfl
abbrev Fq:Fct:=⟨[.v (.el .page)],[.sl .request],λ(x_:Ty13_)=>x_.1.bf.length+x_.1.bh.length<=1000000000000,λ(x_:Ty13_)=>(nextNeeds x_.1,())⟩
abbrev DB (p:Sa_):LInv:=⟨[⟨.s,3,true,.sl .request⟩,⟨.s,5,true,.el .int⟩,⟨.b,1,false,.el .page⟩,⟨.s,4,true,.sl .int⟩],λ(z_ x_:Ty136_)=>((0<=x_.2.1/\x_.2.1<=(openSlots p).length/\x_.1.length<=x_.2.1/\x_.1++((openSlots p).drop x_.2.1.toNat).map (slotRequest p)=(openSlots p).map (slotRequest p))/\x_.2.2.1=z_.2.2.1)/\x_.2.2.2.1=z_.2.2.2.1,λ(x_:Ty136_)=>(openSlots p).length-x_.2.1.toNat⟩
abbrev DF (p:Sa_):LInv:=⟨[⟨.s,3,true,.sl .request⟩,⟨.s,7,true,.el .int⟩,⟨.b,1,false,.el .page⟩,⟨.s,6,true,.sl .int⟩],λ(z_ x_:Ty136_)=>((0<=x_.2.1/\x_.2.1<=(openMods p).length/\x_.1.length<=(openSlots p).length+x_.2.1/\x_.1++((openMods p).drop x_.2.1.toNat).map (modRequest p)=nextNeeds p)/\x_.2.2.1=z_.2.2.1)/\x_.2.2.2.1=z_.2.2.2.1,λ(x_:Ty136_)=>(openMods p).length-x_.2.1.toNat⟩
def AjI:=Akz.a Fq<|Fct.p (KP [1,2,3,4,5,6,7] [14,31]) (λ⟨p,_⟩=>λ|4=>some (DB p)|9=>some (DF p)|_=>none) Akz.2 func65 (by
 rintro⟨(p:Sa_),_⟩ hp;refine ho (.cl FA (p,()) λ(z2:Ty40_)=>lpx (DB p) ([],((0:Int),(p,(z2.1,())))) λ(y2:Ty136_) bk2=>.br (decide (y2.2.1<(y2.2.2.2.1.length:Int))) (.ix y2.2.1 y2.2.2.2.1.length<|.cl BF (y2.2.2.1,y2.2.2.2.1.getD y2.2.1.toNat default,()) λz3=>.ap (y2.1.length+[z3.1].length) 72<|.bk (bk2 (y2.1++[z3.1],(w1 y2.2.1,(y2.2.2.1,(y2.2.2.2.1,())))))) (.cl GZ (y2.2.2.1,()) λ(z4:Ty40_)=>lpx (DF p) (y2.1,((0:Int),(y2.2.2.1,(z4.1,())))) λ(y10:Ty136_) bk10=>.br (decide (y10.2.1<(y10.2.2.2.1.length:Int))) (.ix y10.2.1 y10.2.2.2.1.length<|.cl Bz (y10.2.2.1,y10.2.2.2.1.getD y10.2.1.toNat default,()) λz5=>.ap (y10.1.length+[z5.1].length) 72<|.re (Value.int IntKind.i64 y2.2.1)<|.bk (bk10 (y10.1++[z5.1],(w1 y10.2.1,(y10.2.2.1,(y10.2.2.2.1,())))))) (.lf Fq (y10.1,())))) ?_;refine Af ?_ λ_=>(Au ?_ λ(y2:Ty136_) i2=>Aa (λh3=>Er ?_ λo4 o5=>Af ?_ λ_=>(Ek ?_ λ_=>A8 ?_)) (λh3=>Af ?_ λ_=>(Au ?_ λ(y10:Ty136_) i10=>Aa (λh11=>Er ?_ λo12 o13=>Af ?_ λ_=>(Ek ?_ λ_=>An<|A8 ?_)) (λh11=>lfY ?_))))
 all_goals
  have hl1:(openSlots p).length<=p.bf.length:=Dt _ _ _;have hl2:(openMods p).length<=p.bh.length:=Dt _ _ _;try simp only[std,Nat.reduceAdd] at *
 all_goals first|trivial|omega|exact⟨o_,o_,by simp,rfl⟩|skip
 all_goals (obtain⟨⟨⟨a1,a2,a3,a4⟩,e1⟩,e2⟩:=i2;simp only[e1,e2] at *)
 all_goals first|trivial|omega|skip
 all_goals try (obtain⟨⟨⟨b1,b2,b3,b4⟩,f1⟩,f2⟩:=i10;simp only[f1,f2] at *)
 all_goals first|trivial|omega|skip
 all_goals first|(have ho:=We (p:=p) (i:=y10.2.1.toNat) o_)|(have ho:=WI (p:=p) (i:=y2.2.1.toNat) o_)|skip
 all_goals first|exact⟨o_,o_,o_⟩|skip
 all_goals first|(rw[ME (modRequest p) (l:=openMods p) (i:=y10.2.1.toNat) o_] at b4;rw[Qd7] at b4;exact b4)|(rw[PJ (modRequest p) (l:=openMods p) (i:=y10.2.1.toNat) o_] at b4;rw[Al o_,show(y10.2.1+1).toNat=y10.2.1.toNat+1 from o_];exact⟨⟨⟨⟨o_,o_,by simp only[Qa1,Qa7,Qb1];omega,by rw[Qb5];exact b4⟩,by trivial⟩,by trivial⟩,o_⟩)|(rw[PJ (slotRequest p) (l:=openSlots p) (i:=y2.2.1.toNat) o_] at a4;rw[Al o_,show(y2.2.1+1).toNat=y2.2.1.toNat+1 from o_];exact⟨⟨⟨⟨o_,o_,by simp only[Qa1,Qa7,Qb1];omega,by rw[Qb5];exact a4⟩,by trivial⟩,by trivial⟩,o_⟩)|(rw[ME (slotRequest p) (l:=openSlots p) (i:=y2.2.1.toNat) o_] at a4;rw[Qd7] at a4;exact⟨o_,o_,o_,by rw[a4];rfl⟩)|skip)
abbrev DC (p:Sa_):LInv:=⟨[⟨.s,3,true,.sl .request⟩,⟨.s,12,true,.el .int⟩,⟨.b,1,false,.el .page⟩,⟨.s,10,true,.sl .int⟩],λ(z_ x_:Ty136_)=>((0<=x_.2.1/\x_.2.1<=(openSlots p).length/\x_.1.length<=x_.2.1/\x_.1++((openSlots p).drop x_.2.1.toNat).map (slotRequest p)=(openSlots p).map (slotRequest p))/\x_.2.2.1=z_.2.2.1)/\x_.2.2.2.1=z_.2.2.2.1,λ(x_:Ty136_)=>(openSlots p).length-x_.2.1.toNat⟩
abbrev DA (p:Sa_):LInv:=⟨[⟨.s,3,true,.sl .request⟩,⟨.s,26,true,.el .int⟩,⟨.b,1,false,.el .page⟩,⟨.s,24,true,.sl .int⟩],λ(z_ x_:Ty136_)=>((0<=x_.2.1/\x_.2.1<=(openMods p).length/\x_.1.length<=(openSlots p).length+x_.2.1/\x_.1++((openMods p).drop x_.2.1.toNat).map (modRequest p)=nextNeeds p)/\x_.2.2.1=z_.2.2.1)/\x_.2.2.2.1=z_.2.2.2.1,λ(x_:Ty136_)=>(openMods p).length-x_.2.1.toNat⟩
def Amq:=AjI.a Fq<|Fct.p (KP [1,2,3,5,7,10,11,12,24,25,26] [13,27]) (λ⟨p,_⟩=>λ|3=>some (DC p)|8=>some (DA p)|_=>none) AjI.2 func42 (by
 rintro⟨(p:Sa_),_⟩ hp;refine ho (.cl FA (p,()) λ(z2:Ty40_)=>lpx (DC p) ([],((0:Int),(p,(z2.1,())))) λ(y2:Ty136_) bk2=>.br (decide (y2.2.1<(z2.1.length:Int))) (.ix y2.2.1 y2.2.2.2.1.length<|.cl BF (y2.2.2.1,y2.2.2.2.1.getD y2.2.1.toNat default,()) λz3=>.ap (y2.1.length+[z3.1].length) 72<|.re (Value.int IntKind.i64 (z2.1.length:Int))<|.bk (bk2 (y2.1++[z3.1],(w1 y2.2.1,(y2.2.2.1,(y2.2.2.2.1,())))))) (.cl GZ (y2.2.2.1,()) λ(z4:Ty40_)=>lpx (DA p) (y2.1,((0:Int),(y2.2.2.1,(z4.1,())))) λ(y10:Ty136_) bk10=>.br (decide (y10.2.1<(z4.1.length:Int))) (.ix y10.2.1 y10.2.2.2.1.length<|.cl Bz (y10.2.2.1,y10.2.2.2.1.getD y10.2.1.toNat default,()) λz5=>.ap (y10.1.length+[z5.1].length) 72<|.re (Value.int IntKind.i64 y2.2.1)<|.re (Value.int IntKind.i64 (z2.1.length:Int))<|.re (Value.int IntKind.i64 (z4.1.length:Int))<|.bk (bk10 (y10.1++[z5.1],(w1 y10.2.1,(y10.2.2.1,(y10.2.2.2.1,())))))) (.lf Fq (y10.1,())))) ?_;refine Af ?_ λ_=>(Au ?_ λ(y2:Ty136_) i2=>Aa (λh3=>Er ?_ λo4 o5=>Af ?_ λ_=>(Ek ?_ λ_=>An<|A8 ?_)) (λh3=>Af ?_ λ_=>(Au ?_ λ(y10:Ty136_) i10=>Aa (λh11=>Er ?_ λo12 o13=>Af ?_ λ_=>(Ek ?_ λ_=>An<|An<|An<|A8 ?_)) (λh11=>lfY ?_))))
 all_goals
  have hl1:(openSlots p).length<=p.bf.length:=Dt _ _ _;have hl2:(openMods p).length<=p.bh.length:=Dt _ _ _;try simp only[Kk] at *
  try simp only[std,Nat.reduceAdd] at *
 all_goals first|trivial|omega|exact⟨o_,o_,by simp,rfl⟩|skip
 all_goals (obtain⟨⟨⟨a1,a2,a3,a4⟩,e1⟩,e2⟩:=i2;simp only[e1,e2] at *)
 all_goals first|trivial|omega|skip
 all_goals try (obtain⟨⟨⟨b1,b2,b3,b4⟩,f1⟩,f2⟩:=i10;simp only[f1,f2] at *)
 all_goals first|trivial|omega|skip
 all_goals first|(have ho:=We (p:=p) (i:=y10.2.1.toNat) o_)|(have ho:=WI (p:=p) (i:=y2.2.1.toNat) o_)|skip
 all_goals first|exact⟨o_,o_,o_⟩|skip
 all_goals first|(rw[ME (modRequest p) (l:=openMods p) (i:=y10.2.1.toNat) o_] at b4;rw[Qd7] at b4;exact b4)|(rw[PJ (modRequest p) (l:=openMods p) (i:=y10.2.1.toNat) o_] at b4;rw[Al o_,show(y10.2.1+1).toNat=y10.2.1.toNat+1 from o_];exact⟨⟨⟨⟨o_,o_,by simp only[Qa1,Qa7,Qb1];omega,by rw[Qb5];exact b4⟩,by trivial⟩,by trivial⟩,o_⟩)|(rw[PJ (slotRequest p) (l:=openSlots p) (i:=y2.2.1.toNat) o_] at a4;rw[Al o_,show(y2.2.1+1).toNat=y2.2.1.toNat+1 from o_];exact⟨⟨⟨⟨o_,o_,by simp only[Qa1,Qa7,Qb1];omega,by rw[Qb5];exact a4⟩,by trivial⟩,by trivial⟩,o_⟩)|(rw[ME (slotRequest p) (l:=openSlots p) (i:=y2.2.1.toNat) o_] at a4;rw[Qd7] at a4;exact⟨o_,o_,o_,by rw[a4];rfl⟩)|skip)
def busyOf (l:List Sk_):List Sb_:=l.map λc=>c.to
abbrev AfQ:Fct:=⟨[.v (.sl .conn)],[.sl .addr],λ(x_:Ty0_)=>x_.1.length<=1048576,λ(x_:Ty0_)=>(busyOf x_.1,())⟩
abbrev Ge (l:(List Sk_)):LInv:=⟨[⟨.s,3,true,.sl .addr⟩,⟨.s,4,true,.el .int⟩],λ_ (x_:Ty137_)=>0<=x_.2.1/\x_.2.1<=l.length/\x_.1.length<=x_.2.1/\x_.1++busyOf (l.drop x_.2.1.toNat)=busyOf l,λ(x_:Ty137_)=>l.length-x_.2.1.toNat⟩
def AmC:=Amq.a AfQ<|Fct.p (KP [0,2,3,4] [9]) (λ⟨l,_⟩=>lv [(3,Ge l)]) Amq.2 func66 (by
 rintro⟨(l:List Sk_),_⟩ hp;refine ho (lpx (Ge l) ([],((0:Int),())) λ(y1:Ty137_) bk1=>.br (decide (y1.2.1<(l.length:Int))) (.ob (inB y1.2.1 l.length)<|.ap (y1.1.length+[(l.getD y1.2.1.toNat default).to].length) 32<|.re (l)<|.bk (bk1 (y1.1++[(l.getD y1.2.1.toNat default).to],(w1 y1.2.1,())))) (.lf AfQ (y1.1,()))) ?_;refine Au ?_ λ(y1:Ty137_) i1=>Aa (λh2=>Ac ?_ λ_=>Ek ?_ λ_=>An<|A8 ?_) (λh2=>lfY ?_)
 all_goals try simp only[std,Nat.reduceAdd,busyOf] at *
 all_goals first|trivial|omega|skip
 all_goals (obtain⟨a1,a2,a3,a4⟩:=i1)
 all_goals first|(rw[ME (λc:Sk_=>c.to) (l:=l) (i:=y1.2.1.toNat) o_,Qd7] at a4;exact a4)|(rw[PJ (λc:Sk_=>c.to) (l:=l) (i:=y1.2.1.toNat) o_] at a4;rw[Al o_,show(y1.2.1+1).toNat=y1.2.1.toNat+1 from o_];exact⟨⟨o_,o_,by simp only[Qa1,Qa7,Qb1];omega,by rw[Qb5];exact a4⟩,o_⟩))
def reqNeeds (l:Sd_):List Sg_:=withoutAddrs (busyOf l.conns) (nextNeeds l.page)
def reqPick (l:Sd_):Int:=pickReq l.page (reqNeeds l) 0 (-1) 0
def reqTo (l:Sd_):Sb_:=((reqNeeds l).getD (reqPick l).toNat default).to
def requestNext (l:Sd_):Sd_×Bool :=
 if reqPick l<0 then(l,false)
 else if(useGuess l.guesses (reqTo l)).2.2=true then
  ({ l with guesses:=(useGuess l.guesses (reqTo l)).1,net:=keepAnswer l.net l.page.addr.host (reqTo l) (useGuess l.guesses (reqTo l)).2.1,page:=takeAnswer l.page (reqTo l) (useGuess l.guesses (reqTo l)).2.1 },true)
 else if 3<=l.conns.length then(l,false)
 else({ l with net:=(fetchNow l.net l.page.addr.host (reqTo l) false).1,conns:=(openConn l.conns (reqTo l) (fetchNow l.net l.page.addr.host (reqTo l) false).2 false).1 },true)
def okGs (l:List Sm_):Prop:=∀ g,g∈l->Ad g.bd<=1048576
def okCs (l:List Sk_):Prop:=∀ c,c∈l->Ad c.bd<=1048576/\szAddr c.to<=4000000
def okTo (p:Sa_):Prop:=(∀ s,s∈p.bf->szAddr s.to<=4000000)/\∀ m,m∈p.bh->szAddr m.to<=4000000
def okRN (l:Sd_):Prop:=((okFM l.page/\okTo l.page/\l.parts.length<=1000000000)/\-9223372036854775808<=l.page.block/\l.page.block<=9223372036854775807/\l.page.bf.length+l.page.bh.length<=1000000000000)/\(l.conns.length<=1048576/\okCs l.conns)/\(l.guesses.length<=4194304/\okGs l.guesses)/\okNt l.net
def Hg (p:Sa_):(nextNeeds p).length<=p.bf.length+p.bh.length:=by
 have h1:(openSlots p).length<=p.bf.length:=Dt _ _ _;have h2:(openMods p).length<=p.bh.length:=Dt _ _ _;unfold nextNeeds;rw[Qa1,Qf2,Qf2];omega
def QL {d:List Sb_} {r:Sg_}:∀ {l:List Sg_},r∈withoutAddrs d l->r∈l
 | [],h=>h
 | x::l,h=>by
  rw[withoutAddrs] at h;split at h
  ·exact Qc3 _ (QL h)
  ·rcases Qd2.1 h with q|q
   ·rw[q];exact Qd3
   ·exact Qc3 _ (QL q)
def AcW {p:Sa_} {r:Sg_} (h:r∈nextNeeds p):(∃ s,s∈p.bf/\r.to=s.to)\/∃ m,m∈p.bh/\r.to=m.to:=by
 unfold nextNeeds at h;rcases Qb8.1 h with q|q
 ·obtain⟨k,hk,rfl⟩:=Qg1.1 q;have:=Hr (λs:Sl_=>!s.done) p.bf 0 k hk;left;refine⟨p.bf.getD k.toNat default,AN o_,?_⟩;unfold slotRequest;rw[Qa3 o_]
 ·obtain⟨k,hk,rfl⟩:=Qg1.1 q;have:=Hr (λm:Sf_=>!m.done) p.bh 0 k hk;right;refine⟨p.bh.getD k.toNat default,AN o_,?_⟩;rw[ND o_ o_]
def L1 (p:Sa_):∀ (l:List Sg_) (i b c:Int),-1<=b->b<i->-1<=pickReq p l i b c/\pickReq p l i b c<i+l.length
 | [],i,b,c,h1,h2=>by
  rw[pickReq];simp only[Qb1];omega
 | r::l,i,b,c,h1,h2=>by
  rw[pickReq,Qa7];split
  ·have:=L1 p l (i+1) i (classOf p r) o_ o_;omega
  ·have:=L1 p l (i+1) b c h1 o_;omega
def rn1 (l:Sd_):withoutAddrs (busyOf l.conns) (nextNeeds l.page)=reqNeeds l:=rfl
def rn2 (l:Sd_):pickReq l.page (reqNeeds l) 0 (-1) 0=reqPick l:=rfl
def rn3 (l:Sd_):((reqNeeds l).getD (reqPick l).toNat default).to=reqTo l:=rfl
def AfL (l:Sd_) : -1<=reqPick l/\reqPick l<(reqNeeds l).length:=by
 have:=L1 l.page (reqNeeds l) 0 (-1) 0 o_ o_;unfold reqPick;omega
def Ads {l:Sd_} (h:okTo l.page) (h0:0<=reqPick l):szAddr (reqTo l)<=4000000:=by
 have hi:=(AfL l).2;have hm:(reqNeeds l).getD (reqPick l).toNat default∈nextNeeds l.page:=QL (AN (show(reqPick l).toNat<(reqNeeds l).length from o_));unfold reqTo;rcases AcW hm with⟨s,hs,e⟩|⟨m,hm2,e⟩
 ·rw[e];exact h.1 s hs
 ·rw[e];exact h.2 m hm2
def ZU {l:List Sm_} {a:Sb_} (h:okGs l):Ad (useGuess l a).2.1<=1048576:=by
 unfold useGuess;split
 ·exact(show Ad notFound<=1048576 by decide)
 ·rename_i hc;have hf:=DN (λg:Sm_=>decide (g.to=a)) l 0 o_;have:(findGuess l a).toNat<l.length:=by unfold findGuess at *;omega
  exact h _ (AN this)
def Ags {l:List Sk_} {i:Nat} (h:i<l.length):busyOf (l.drop i)=(l.getD i default).to::busyOf (l.drop (i+1)):=PJ (λc:Sk_=>c.to) h
def AdU {l:List Sk_} {i:Nat} (h:l.length<=i):busyOf (l.drop i)=[]:=ME (λc:Sk_=>c.to) h
abbrev B8:Fct:=⟨[.v (.el .loader)],[.el .loader,.el .bool],λ(x_:Ty90_)=>okRN x_.1,λ(x_:Ty90_)=>((requestNext x_.1).1,(requestNext x_.1).2,())⟩
def AlA:=AmC.a B8<|Fct.o (KP [1,2,3,4,5,6,7,8,9,10,11,12,13] [28,47,67]) AmC.2 func12 (by
 rintro⟨(l:Sd_),_⟩ hp;refine ho (.cl Cf (l,()) λz2=>let q1_:Out:=.lf B8 (z2.1,false,());.cl Fq (l.page,()) λz3=>.cl AfQ (l.conns,()) λz4=>.cl Ew (z3.1,z4.1,()) λz5=>.cl Fp (l.page,z5.1,()) λ(z6:Ty3_)=>let q0_:=z5.1.getD z6.1.toNat default;.br (decide (z6.1<0)) q1_ (.ix z6.1 z5.1.length<|.cl GX (l.guesses,q0_.to,()) λz7=>.br (z7.2.2.1) (.cl A5 (l.net,l.page.addr.host,q0_.to,z7.2.1,()) λz8=>.cl CX (l.page,q0_.to,z7.2.1,()) λz9=>.lf B8 (⟨z8.1,z9.1,z2.1.parts,z2.1.conns,z7.1⟩,true,())) (.br (decide ((l.conns.length:Int)>=3)) q1_ (.cl Bv (l.net,l.page.addr.host,q0_.to,false,()) λz10=>.cl Ng (l.conns,q0_.to,z10.2.1,false,()) λz11=>.lf B8 ({z2.1 with net:=z10.1,conns:=z11.1},true,()))))) ?_;repeat' (guard_target =~ Out.holds _ _;first|refine lfY ?_|refine Aa (λ_=>?_) λ_=>?_|refine Af ?_ λ_=>?_|refine Er ?_ λ_ _=>?_)
 all_goals obtain⟨⟨⟨q1,qt,qp⟩,q2,q3,q4⟩,⟨q5,q6⟩,⟨q7,q8⟩,q9⟩:=(show okRN l from hp)
 all_goals
  have hok:=CP (Ff q1);have hh:l.page.addr.host.size<=4000000:=by have:=hok.2.1;simp only[szAddr] at this;omega
  have hn:=Hg l.page;have hb:(busyOf l.conns).length=l.conns.length:=Qf2 ..;have hw:=Ji (busyOf l.conns) (nextNeeds l.page);have hk:=AfL l;have ht:=λh=>Ads (l:=l) qt h
  have hu:=ZU (a:=reqTo l) q8;have hf:=Fw (t:=l.page.addr.host) (a:=reqTo l) (g:=false) q9
 all_goals obtain⟨n1,n2,n3,n4⟩:=q9
 all_goals
  try simp only[Kk] at *
  try simp only[std,Nat.reduceAdd,rn1,rn2,rn3] at *
 all_goals first|trivial|omega|skip
 all_goals first|exact⟨o_,o_,o_,o_,o_⟩|exact⟨o_,o_⟩|exact⟨o_,⟨o_,o_⟩,o_⟩|skip
 all_goals
  have hs1:(useGuess l.guesses (reqTo l)).2.1.body.size+(useGuess l.guesses (reqTo l)).2.1.bj.size<=1048576:=hu;have hs2:(fetchNow l.net l.page.addr.host (reqTo l) false).2.body.size+(fetchNow l.net l.page.addr.host (reqTo l) false).2.bj.size<=1048576:=hf
 all_goals first|exact⟨q1,o_,o_,o_⟩|exact⟨o_,o_⟩|skip
 all_goals unfold requestNext
 all_goals first|(rw[Qa3 ‹_›];exact⟨rfl,rfl⟩)|(rw[Qa5 o_])
 all_goals first|(rw[Qa3 ‹_›];exact⟨rfl,rfl⟩)|(rw[Qa5 (by rw[show(useGuess l.guesses (reqTo l)).2.2=false from ‹_›];decide)])
 all_goals first|(rw[Qa3 o_];exact⟨rfl,rfl⟩)|(rw[Qa5 o_];exact⟨rfl,rfl⟩)|skip)
abbrev CO (l:Sd_):LInv:=⟨[⟨.s,5,true,.sl .addr⟩,⟨.s,23,true,.el .int⟩,⟨.b,1,false,.el .loader⟩,⟨.b,2,true,.el .loader⟩,⟨.b,4,true,.el .loader⟩],λ(z_ x_:Ty138_)=>(((0<=x_.2.1/\x_.2.1<=l.conns.length/\x_.1.length<=x_.2.1/\x_.1++busyOf (l.conns.drop x_.2.1.toNat)=busyOf l.conns)/\x_.2.2.1=z_.2.2.1)/\x_.2.2.2.1=z_.2.2.2.1)/\x_.2.2.2.2.1=z_.2.2.2.2.1,λ(x_:Ty138_)=>l.conns.length-x_.2.1.toNat⟩
def Aly:=AlA.a B8<|Fct.p (KP [1,2,3,4,5,7,8,9,10,11,12,13,14,15,16,21,22,23] [24,43,62,82]) (λ⟨l,_⟩=>lv [(4,CO l)]) AlA.2 func8 (by
 rintro⟨(l:Sd_),_⟩ hp;refine ho (let q3_:=(l.conns.length:Int);.cl Cf (l,()) λz2=>lpx (CO l) ([],((0:Int),(l,(default,(z2.1,()))))) λ(y2:Ty138_) bk2=>let q2_:=l.conns.getD y2.2.1.toNat default;let q1_:Out:=.lf B8 (y2.2.2.2.2.1,false,());.br (decide (y2.2.1<q3_)) (.ob (inB y2.2.1 l.conns.length)<|.ap (y2.1.length+[q2_.to].length) 32<|.re (l.conns)<|.re (Value.int IntKind.i64 q3_)<|.bk (bk2 (y2.1++[q2_.to],(w1 y2.2.1,(y2.2.2.1,(y2.2.2.2.1,(y2.2.2.2.2.1,()))))))) (.cl Fq (y2.2.2.1.page,()) λz3=>.cl Ew (z3.1,y2.1,()) λz4=>.cl Fp (y2.2.2.1.page,z4.1,()) λ(z5:Ty3_)=>let q0_:=z4.1.getD z5.1.toNat default;.br (decide (z5.1<0)) q1_ (.ix z5.1 z4.1.length<|.cl GX (y2.2.2.1.guesses,q0_.to,()) λz6=>.br (z6.2.2.1) (.cl A5 (y2.2.2.2.2.1.net,y2.2.2.1.page.addr.host,q0_.to,z6.2.1,()) λz7=>.cl CX (y2.2.2.2.2.1.page,q0_.to,z6.2.1,()) λz8=>.lf B8 (⟨z7.1,z8.1,y2.2.2.2.2.1.parts,y2.2.2.2.2.1.conns,z6.1⟩,true,())) (.br (decide ((y2.2.2.1.conns.length:Int)>=3)) q1_ (.cl Bv (y2.2.2.2.2.1.net,y2.2.2.1.page.addr.host,q0_.to,false,()) λz9=>.cl Ng (y2.2.2.2.2.1.conns,q0_.to,z9.2.1,false,()) λz10=>.lf B8 ({y2.2.2.2.2.1 with net:=z9.1,conns:=z10.1},true,())))))) ?_;refine Af ?_ λ_=>(Au ?_ λ(y2:Ty138_) i2=>Aa (λh3=>Ac ?_ λ_=>Ek ?_ λ_=>An<|An<|A8 ?_) (λh3=>Af ?_ λ_=>(Af ?_ λ_=>(Af ?_ λ_=>(Aa (λh10=>lfY ?_) (λh10=>Er ?_ λo11 o12=>Af ?_ λ_=>(Aa (λh14=>Af ?_ λ_=>(Af ?_ λ_=>(lfY ?_))) (λh14=>Aa (λh17=>lfY ?_) (λh17=>Af ?_ λ_=>(Af ?_ λ_=>(lfY ?_)))))))))))
 all_goals obtain⟨⟨⟨q1,qt,qp⟩,q2,q3,q4⟩,⟨q5,q6⟩,⟨q7,q8⟩,q9⟩:=(show okRN l from hp)
 all_goals
  have hok:=CP (Ff q1);have hh:l.page.addr.host.size<=4000000:=by have:=hok.2.1;simp only[szAddr] at this;omega
  have hn:=Hg l.page;have hb:(busyOf l.conns).length=l.conns.length:=Qf2 ..;have hw:=Ji (busyOf l.conns) (nextNeeds l.page);have hk:=AfL l;have ht:=λh=>Ads (l:=l) qt h
  have hu:=ZU (a:=reqTo l) q8;have hf:=Fw (t:=l.page.addr.host) (a:=reqTo l) (g:=false) q9
 all_goals obtain⟨n1,n2,n3,n4⟩:=q9
 all_goals
  try simp only[Kk] at *
  try simp only[std,Nat.reduceAdd,rn1,rn2,rn3] at *
 all_goals first|trivial|omega|skip
 all_goals (obtain⟨⟨⟨⟨a1,a2,a3,a4⟩,e1⟩,e2⟩,e3⟩:=i2;simp only[e1,e3] at *)
 all_goals first|trivial|omega|(rw[Ags (l:=l.conns) (i:=y2.2.1.toNat) o_] at a4;rw[Al o_,show(y2.2.1+1).toNat=y2.2.1.toNat+1 from o_];exact⟨⟨⟨⟨⟨o_,o_,by simp only[Qa1,Qa7,Qb1];omega,by rw[Qb5];exact a4⟩,by trivial⟩,e2⟩,by trivial⟩,o_⟩)|(have he:y2.1=busyOf l.conns:=by rw[AdU (l:=l.conns) (i:=y2.2.1.toNat) o_,Qd7] at a4;exact a4)
 all_goals simp only[he,rn1,rn2,rn3] at *
 all_goals first|trivial|omega|skip
 all_goals first|exact⟨o_,o_,o_,o_,o_⟩|exact⟨o_,o_⟩|exact⟨o_,⟨o_,o_⟩,o_⟩|skip
 all_goals
  have hs1:(useGuess l.guesses (reqTo l)).2.1.body.size+(useGuess l.guesses (reqTo l)).2.1.bj.size<=1048576:=hu;have hs2:(fetchNow l.net l.page.addr.host (reqTo l) false).2.body.size+(fetchNow l.net l.page.addr.host (reqTo l) false).2.bj.size<=1048576:=hf
 all_goals first|exact⟨q1,o_,o_,o_⟩|exact⟨o_,o_⟩|skip
 all_goals unfold requestNext
 all_goals first|(rw[Qa3 ‹_›];exact⟨rfl,rfl⟩)|(rw[Qa5 o_])
 all_goals first|(rw[Qa3 ‹_›];exact⟨rfl,rfl⟩)|(rw[Qa5 (by rw[show(useGuess l.guesses (reqTo l)).2.2=false from ‹_›];decide)])
 all_goals first|(rw[Qa3 o_];exact⟨rfl,rfl⟩)|(rw[Qa5 o_];exact⟨rfl,rfl⟩)|skip)
def Z2 (l:List Sk_) (a:Sb_) (x:Sc_) (g:Bool):szL G9 (openConn l a x g).1<=szL G9 l+(szAddr a+Ad x+1):=by
 unfold openConn;split
 ·simp only;omega
 ·simp only;rw[En];simp only[G9];omega
def HV (p:Sa_) (m:Int) (to d:ByteArray) (n:Int):(addSlot p m to d n).1.addr=p.addr:=by unfold addSlot;split<;>rfl
def VF (p:Sa_) (a:Sb_):(askModule p a).addr=p.addr:=by unfold askModule;split<;>rfl
def Re (p:Sa_) (to:ByteArray):(addEntry p to).addr=p.addr:=by
 unfold addEntry;split
 ·exact VF p _
 ·rfl
def TJ (p:Sa_) (t:Si_) (n:Int):(element p t n).addr=p.addr:=by
 unfold element;split
 ·exact HV ..
 ·split
  ·exact HV ..
  ·rfl
def T3 (p:Sa_) (n:Int):(script p n).addr=p.addr:=by
 unfold script;split
 ·split<;>rfl
 ·split
  ·exact HV ..
  ·split
   ·exact Re ..
   ·exact HV p ..
def Vq (p:Sa_) (s:ByteArray):(say p s).addr=p.addr:=by unfold say;split<;>rfl
def JA (p:Sa_) (c:ByteArray) (w:Bool):(runCode p c w).addr=p.addr:=by unfold runCode;split<;>rfl
def Pq (p:Sa_):(takeToken p).1.addr=p.addr:=by
 unfold takeToken;split
 ·rfl
 ·show(takeTok p _).addr=_;unfold takeTok;split
  ·exact TJ _ _ _
  ·split
   ·exact T3 _ _
   ·rfl
def T5 (p:Sa_):(stepParser p).1.addr=p.addr:=by
 unfold stepParser;split
 ·unfold stepInline;split
  ·exact JA _ _ _
  ·rfl
 ·split
  ·unfold stepBlock;split
   ·rfl
   ·split
    ·rfl
    ·split
     ·exact JA _ _ _
     ·rfl
  ·exact Pq p
def K3 (p:Sa_):∀ (l:List Sb_) (q:Sa_),(enterAll p q l).addr=q.addr
 | [],q=>rfl
 | b::l,q=>by have:=K3 p l (enter1 p q b);refine this.trans ?_;unfold enter1;split<;>rfl
def Xw (p:Sa_) (a:Sb_):(enter p a).addr=p.addr:=by
 unfold enter;split
 ·exact Vq _ _
 ·exact K3 p _ p
def YN (p:Sa_):(stepTail p).1.addr=p.addr:=by
 unfold stepTail;split
 ·rfl
 ·split
  ·unfold tailDefer;split
   ·rfl
   ·split
    ·exact JA _ _ _
    ·rfl
  ·split
   ·unfold tailEnter;split
    ·rfl
    ·exact Xw _ _
   ·split
    ·rfl
    ·exact Vq _ _
def QO:∀ (n:Nat) (p:Sa_),(adv n p).addr=p.addr
 | 0,p=>rfl
 | n+1,p=>by
  rw[adv];split
  ·refine(QO n _).trans ?_;unfold step1;split
   ·exact T5 p
   ·exact YN p
  ·rfl
def Ti:∀ (l:List Sb_) (p:Sa_),(l.foldl askModule p).addr=p.addr
 | [],p=>rfl
 | b::l,p=>(Ti l (askModule p b)).trans (VF p b)
def I4 (p:Sa_) (a:Sb_) (x:Sc_):(takeAnswer p a x).addr=p.addr:=by
 refine(QO 2000 _).trans ?_;unfold fillModule;split
 ·rfl
 ·exact Ti _ _
abbrev AcU:Fct:=⟨[.v (.el .request),.p (.el .conn)],[.el .bool],λ(x_:Sg_×Sk_×Unit)=>True,λ(x_:Sg_×Sk_×Unit)=>(decide (x_.1.to=x_.2.1.to),())⟩
end Go.Proofs.YthpiiodbmkjmjaaGreatDoor.fnActions
