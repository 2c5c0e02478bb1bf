/- Contracts, part 8. -/
import Derived.Test.YtmeicddakaciiaaGreatDoorVPStepLoad4
import Derived.Test.YtmeicddakaciiaaGreatDoorVPStepLoad7
namespace Go.Proofs.YtmeicddakaciiaaGreatDoor.fnExactStepLoad
open Go.Proofs.YtmeicddakaciiaaGreatDoor
open Go.D Go.Proofs.Tryz
set_option maxRecDepth 100000
set_option maxHeartbeats 2000000
set_option linter.unusedVariables false
set_option linter.unusedSimpArgs false
def Anc:=Ak4.a V4<|Fct.p (KP [0,2,3,4] [9]) (λ⟨l,_⟩=>lv [(3,D1 l)]) Ak4.2 func198 (by
 rintro⟨(l:List Sj_),_⟩ hp;refine ho (lpx (D1 l) ([],((0:Int),())) λ(y1:List Sb_×Int×PUnit) bk1=>.br (decide (y1.2.1<(l.length:Int))) (.ob (inB y1.2.1 l.length)<|.ob (True)<|.ob (Bz (y1.1.length+[(l.getD y1.2.1.toNat default).to].length) 32)<|.ob (l=l)<|.ob (bk1 (y1.1++[(l.getD y1.2.1.toNat default).to],(w1 y1.2.1,())))<|.ok) (.lf V4 (y1.1,()))) ?_;refine An ?_ λ(y1:List Sb_×Int×PUnit) i1=>Ab (λh2=>Aa ?_ λ_=>Aa trivial λ_=>Aa ?_ λ_=>Aa rfl λ_=>Aa ?_ λ_=>trivial) (λh2=>lfY ?_)
 all_goals try simp only[D1,V4,std,Nat.reduceAdd,busyOf] at *
 all_goals first|trivial|omega|skip
 all_goals (obtain⟨a1,a2,a3,a4⟩:=i1)
 all_goals first|(rw[JX (λc:Sj_=>c.to) (l:=l) (i:=y1.2.1.toNat) o_,Qd5] at a4;exact a4)|(rw[NS (λc:Sj_=>c.to) (l:=l) (i:=y1.2.1.toNat) o_] at a4;rw[Ag o_,show(y1.2.1+1).toNat=y1.2.1.toNat+1 from o_];exact⟨⟨o_,o_,by simp only[Qa3,Qa6,Qb9];omega,by rw[Qb4];exact a4⟩,o_⟩))
def reqNeeds (l:Sc_):List Sf_:=withoutAddrs (busyOf l.conns) (nextNeeds l.page)
def reqPick (l:Sc_):Int:=pickReq l.page (reqNeeds l) 0 (-1) 0
def reqTo (l:Sc_):Sb_:=((reqNeeds l).getD (reqPick l).toNat default).to
def requestNext (l:Sc_):Sc_×Bool :=
 if reqPick l<0 then(l,false)
 else if(useGuess l.guesses (reqTo l)).2.2=true then
  ({ l with guesses:=(useGuess l.guesses (reqTo l)).1,net:=keepAnswer l.net l.page.addr.host (reqTo l) (useGuess l.guesses (reqTo l)).2.1,page:=takeAnswer l.page (reqTo l) (useGuess l.guesses (reqTo l)).2.1 },true)
 else if 3<=l.conns.length then(l,false)
 else({ l with net:=(fetchNow l.net l.page.addr.host (reqTo l) false).1,conns:=(openConn l.conns (reqTo l) (fetchNow l.net l.page.addr.host (reqTo l) false).2 false).1 },true)
def okGs (l:List Sm_):Prop:=∀ g,g∈l->Ae g.bd<=1048576
def okCs (l:List Sj_):Prop:=∀ c,c∈l->Ae c.bd<=1048576/\szAddr c.to<=4000000
def okTo (p:Sa_):Prop:=(∀ s,s∈p.bf->szAddr s.to<=4000000)/\∀ m,m∈p.bh->szAddr m.to<=4000000
def okRN (l:Sc_):Prop:=((okFM l.page/\okTo l.page/\l.parts.length<=1000000000)/\-9223372036854775808<=l.page.block/\l.page.block<=9223372036854775807/\l.page.bf.length+l.page.bh.length<=1000000000000)/\(l.conns.length<=1048576/\okCs l.conns)/\(l.guesses.length<=4194304/\okGs l.guesses)/\okNt l.net
theorem Fp (p:Sa_):(nextNeeds p).length<=p.bf.length+p.bh.length:=by
 have h1:(openSlots p).length<=p.bf.length:=DT _ _ _;have h2:(openMods p).length<=p.bh.length:=DT _ _ _;unfold nextNeeds;rw[Qa3,Qe9,Qe9];omega
theorem Ph {d:List Sb_} {r:Sf_}:∀ {l:List Sf_},r∈withoutAddrs d l->r∈l
 | [],h=>h
 | x::l,h=>by
  rw[withoutAddrs] at h;split at h
  ·exact Qe2 _ (Ph h)
  ·rcases Qe5.1 h with q|q
   ·rw[q];exact Qg0
   ·exact Qe2 _ (Ph q)
theorem Abg {p:Sa_} {r:Sf_} (h:r∈nextNeeds p):(∃ s,s∈p.bf/\r.to=s.to)\/∃ m,m∈p.bh/\r.to=m.to:=by
 unfold nextNeeds at h;rcases Qc0.1 h with q|q
 ·obtain⟨k,hk,rfl⟩:=Qg7.1 q;have:=Fw (λs:Sp_=>!s.done) p.bf 0 k hk;left;refine⟨p.bf.getD k.toNat default,Ba o_,?_⟩;unfold slotRequest;rw[Qa2 o_]
 ·obtain⟨k,hk,rfl⟩:=Qg7.1 q;have:=Fw (λm:Sg_=>!m.done) p.bh 0 k hk;right;refine⟨p.bh.getD k.toNat default,Ba o_,?_⟩;rw[MK o_ o_]
theorem Ke (p:Sa_):∀ (l:List Sf_) (i b c:Int),-1<=b->b<i->-1<=pickReq p l i b c/\pickReq p l i b c<i+l.length
 | [],i,b,c,h1,h2=>by
  rw[pickReq];simp only[Qb9];omega
 | r::l,i,b,c,h1,h2=>by
  rw[pickReq,Qa6];split
  ·have:=Ke p l (i+1) i (classOf p r) o_ o_;omega
  ·have:=Ke p l (i+1) b c h1 o_;omega
theorem rn1 (l:Sc_):withoutAddrs (busyOf l.conns) (nextNeeds l.page)=reqNeeds l:=rfl
theorem rn2 (l:Sc_):pickReq l.page (reqNeeds l) 0 (-1) 0=reqPick l:=rfl
theorem rn3 (l:Sc_):((reqNeeds l).getD (reqPick l).toNat default).to=reqTo l:=rfl
theorem Aem (l:Sc_) : -1<=reqPick l/\reqPick l<(reqNeeds l).length:=by
 have:=Ke l.page (reqNeeds l) 0 (-1) 0 o_ o_;unfold reqPick;omega
theorem AfA {l:Sc_} (h:okTo l.page) (h0:0<=reqPick l):szAddr (reqTo l)<=4000000:=by
 have hi:=(Aem l).2;have hm:(reqNeeds l).getD (reqPick l).toNat default∈nextNeeds l.page:=Ph (Ba (show(reqPick l).toNat<(reqNeeds l).length from o_));unfold reqTo;rcases Abg hm with⟨s,hs,e⟩|⟨m,hm2,e⟩
 ·rw[e];exact h.1 s hs
 ·rw[e];exact h.2 m hm2
theorem RP {l:List Sm_} {a:Sb_} (h:okGs l):Ae (useGuess l a).2.1<=1048576:=by
 unfold useGuess;split
 ·exact(show Ae notFound<=1048576 by decide)
 ·rename_i hc;have hf:=EQ (λg:Sm_=>decide (g.to=a)) l 0 o_;have:(findGuess l a).toNat<l.length:=by unfold findGuess at *;omega
  exact h _ (Ba this)
theorem AfU {l:List Sj_} {i:Nat} (h:i<l.length):busyOf (l.drop i)=(l.getD i default).to::busyOf (l.drop (i+1)):=NS (λc:Sj_=>c.to) h
theorem Ab6 {l:List Sj_} {i:Nat} (h:l.length<=i):busyOf (l.drop i)=[]:=JX (λc:Sj_=>c.to) h
def BO:Fct:=⟨[.v (.el .loader)],[.el .loader,.el .bool],λ(x_:Sc_×Unit)=>okRN x_.1,λ(x_:Sc_×Unit)=>((requestNext x_.1).1,(requestNext x_.1).2,())⟩
def AnR:=Anc.a BO<|Fct.o (KP [1,2,3,4,5,6,7,8,9,10,11,12,13] [28,47,67]) Anc.2 func133 (by
 rintro⟨(l:Sc_),_⟩ hp;refine ho (.cl fCopyLoader (l,()) λz2=>let q1_:Out:=.lf BO (z2.1,false,());.cl Bx (l.page,()) λz3=>.cl V4 (l.conns,()) λz4=>.cl BI (z3.1,z4.1,()) λz5=>.cl Cc (l.page,z5.1,()) λ(z6:Int×PUnit)=>let q0_:=z5.1.getD z6.1.toNat default;.br (decide (z6.1<0)) q1_ (.ob (inB z6.1 z5.1.length)<|.ob (z6.1.toNat<z5.1.length)<|.cl Dn (l.guesses,q0_.to,()) λz7=>.br (z7.2.2.1) (.cl fKeepAnswer (l.net,l.page.addr.host,q0_.to,z7.2.1,()) λz8=>.cl A5 (l.page,q0_.to,z7.2.1,()) λz9=>.lf BO (⟨z8.1,z9.1,z2.1.parts,z2.1.conns,z7.1⟩,true,())) (.br (decide ((l.conns.length:Int)>=3)) q1_ (.cl fFetchNow (l.net,l.page.addr.host,q0_.to,false,()) λz10=>.cl fOpen (l.conns,q0_.to,z10.2.1,false,()) λz11=>.lf BO ({z2.1 with net:=z10.1,conns:=z11.1},true,()))))) ?_;repeat' (guard_target =~ Out.holds _ _;first|refine lfY ?_|refine Ab (λ_=>?_) λ_=>?_|refine Af ?_ λ_=>?_|refine Aa ?_ λ_=>?_)
 all_goals obtain⟨⟨⟨q1,qt,qp⟩,q2,q3,q4⟩,⟨q5,q6⟩,⟨q7,q8⟩,q9⟩:=(show okRN l from hp)
 all_goals
  have hok:=Dm (Ei q1);have hh:l.page.addr.host.size<=4000000:=by have:=hok.2.1;simp only[szAddr] at this;omega
  have hn:=Fp l.page;have hb:(busyOf l.conns).length=l.conns.length:=Qe9 ..;have hw:=Hb (busyOf l.conns) (nextNeeds l.page);have hk:=Aem l;have ht:=λh=>AfA (l:=l) qt h
  have hu:=RP (a:=reqTo l) q8;have hf:=H5 (t:=l.page.addr.host) (a:=reqTo l) (g:=false) q9
 all_goals obtain⟨n1,n2,n3,n4⟩:=q9
 all_goals
  try simp only[Hg] at *
  try simp only[V4,fCopyLoader,fFetchNow,fKeepAnswer,Bx,fOpen,Cc,BO,A5,Dn,BI,std,Nat.reduceAdd,rn1,rn2,rn3] at *
 all_goals first|trivial|omega|skip
 all_goals first|exact⟨o_,o_,o_,o_,o_⟩|exact⟨o_,o_⟩|exact⟨o_,⟨o_,o_⟩,o_⟩|skip
 all_goals
  have hs1:(useGuess l.guesses (reqTo l)).2.1.body.size+(useGuess l.guesses (reqTo l)).2.1.bj.size<=1048576:=hu;have hs2:(fetchNow l.net l.page.addr.host (reqTo l) false).2.body.size+(fetchNow l.net l.page.addr.host (reqTo l) false).2.bj.size<=1048576:=hf
 all_goals first|exact⟨q1,o_,o_,o_⟩|exact⟨o_,o_⟩|skip
 all_goals unfold requestNext
 all_goals first|(rw[Qa2 ‹_›];exact⟨rfl,rfl⟩)|(rw[Qa4 o_])
 all_goals first|(rw[Qa2 ‹_›];exact⟨rfl,rfl⟩)|(rw[Qa4 (by rw[show(useGuess l.guesses (reqTo l)).2.2=false from ‹_›];decide)])
 all_goals first|(rw[Qa2 o_];exact⟨rfl,rfl⟩)|(rw[Qa4 o_];exact⟨rfl,rfl⟩)|skip)
abbrev B2 (l:Sc_):LInv:=⟨[⟨.s,5,true,.sl .addr⟩,⟨.s,23,true,.el .int⟩,⟨.b,1,false,.el .loader⟩,⟨.b,2,true,.el .loader⟩,⟨.b,4,true,.el .loader⟩],λ(z_ x_:(List Sb_)×Int×Sc_×Sc_×Sc_×Unit)=>(((0<=x_.2.1/\x_.2.1<=l.conns.length/\x_.1.length<=x_.2.1/\x_.1++busyOf (l.conns.drop x_.2.1.toNat)=busyOf l.conns)/\x_.2.2.1=z_.2.2.1)/\x_.2.2.2.1=z_.2.2.2.1)/\x_.2.2.2.2.1=z_.2.2.2.2.1,λ(x_:(List Sb_)×Int×Sc_×Sc_×Sc_×Unit)=>l.conns.length-x_.2.1.toNat⟩
def AnT:=AnR.a BO<|Fct.p (KP [1,2,3,4,5,7,8,9,10,11,12,13,14,15,16,21,22,23] [24,43,62,82]) (λ⟨l,_⟩=>lv [(4,B2 l)]) AnR.2 func148 (by
 rintro⟨(l:Sc_),_⟩ hp;refine ho (let q1_:=(l.conns.length:Int);.cl fCopyLoader (l,()) λz2=>lpx (B2 l) ([],((0:Int),(l,(default,(z2.1,()))))) λ(y2:List Sb_×Int×Sc_×Sc_×Sc_×PUnit) bk2=>let q3_:=l.conns.getD y2.2.1.toNat default;let q2_:Out:=.lf BO (y2.2.2.2.2.1,false,());.br (decide (y2.2.1<q1_)) (.ob (inB y2.2.1 l.conns.length)<|.ob (True)<|.ob (Bz (y2.1.length+[q3_.to].length) 32)<|.ob (l.conns=l.conns)<|.ob (Value.int IntKind.i64 q1_=Value.int IntKind.i64 q1_)<|.ob (bk2 (y2.1++[q3_.to],(w1 y2.2.1,(y2.2.2.1,(y2.2.2.2.1,(y2.2.2.2.2.1,()))))))<|.ok) (.cl Bx (y2.2.2.1.page,()) λz3=>.cl BI (z3.1,y2.1,()) λz4=>.cl Cc (y2.2.2.1.page,z4.1,()) λ(z5:Int×PUnit)=>let q0_:=z4.1.getD z5.1.toNat default;.br (decide (z5.1<0)) q2_ (.ob (inB z5.1 z4.1.length)<|.ob (z5.1.toNat<z4.1.length)<|.cl Dn (y2.2.2.1.guesses,q0_.to,()) λz6=>.br (z6.2.2.1) (.cl fKeepAnswer (y2.2.2.2.2.1.net,y2.2.2.1.page.addr.host,q0_.to,z6.2.1,()) λz7=>.cl A5 (y2.2.2.2.2.1.page,q0_.to,z6.2.1,()) λz8=>.lf BO (⟨z7.1,z8.1,y2.2.2.2.2.1.parts,y2.2.2.2.2.1.conns,z6.1⟩,true,())) (.br (decide ((y2.2.2.1.conns.length:Int)>=3)) q2_ (.cl fFetchNow (y2.2.2.2.2.1.net,y2.2.2.1.page.addr.host,q0_.to,false,()) λz9=>.cl fOpen (y2.2.2.2.2.1.conns,q0_.to,z9.2.1,false,()) λz10=>.lf BO ({y2.2.2.2.2.1 with net:=z9.1,conns:=z10.1},true,())))))) ?_;refine Af ?_ λ_=>(An ?_ λ(y2:List Sb_×Int×Sc_×Sc_×Sc_×PUnit) i2=>Ab (λh3=>Aa ?_ λ_=>Aa trivial λ_=>Aa ?_ λ_=>Aa rfl λ_=>Aa rfl λ_=>Aa ?_ λ_=>trivial) (λh3=>Af ?_ λ_=>(Af ?_ λ_=>(Af ?_ λ_=>(Ab (λh10=>lfY ?_) (λh10=>Aa ?_ λ_=>Aa ?_ λ_=>Af ?_ λ_=>(Ab (λh14=>Af ?_ λ_=>(Af ?_ λ_=>(lfY ?_))) (λh14=>Ab (λh17=>lfY ?_) (λh17=>Af ?_ λ_=>(Af ?_ λ_=>(lfY ?_)))))))))))
 all_goals obtain⟨⟨⟨q1,qt,qp⟩,q2,q3,q4⟩,⟨q5,q6⟩,⟨q7,q8⟩,q9⟩:=(show okRN l from hp)
 all_goals
  have hok:=Dm (Ei q1);have hh:l.page.addr.host.size<=4000000:=by have:=hok.2.1;simp only[szAddr] at this;omega
  have hn:=Fp l.page;have hb:(busyOf l.conns).length=l.conns.length:=Qe9 ..;have hw:=Hb (busyOf l.conns) (nextNeeds l.page);have hk:=Aem l;have ht:=λh=>AfA (l:=l) qt h
  have hu:=RP (a:=reqTo l) q8;have hf:=H5 (t:=l.page.addr.host) (a:=reqTo l) (g:=false) q9
 all_goals obtain⟨n1,n2,n3,n4⟩:=q9
 all_goals
  try simp only[Hg] at *
  try simp only[B2,fCopyLoader,fFetchNow,fKeepAnswer,Bx,fOpen,Cc,BO,A5,Dn,BI,std,Nat.reduceAdd,rn1,rn2,rn3] at *
 all_goals first|trivial|omega|skip
 all_goals (obtain⟨⟨⟨⟨a1,a2,a3,a4⟩,e1⟩,e2⟩,e3⟩:=i2;simp only[e1,e3] at *)
 all_goals first|trivial|omega|(rw[AfU (l:=l.conns) (i:=y2.2.1.toNat) o_] at a4;rw[Ag o_,show(y2.2.1+1).toNat=y2.2.1.toNat+1 from o_];exact⟨⟨⟨⟨⟨o_,o_,by simp only[Qa3,Qa6,Qb9];omega,by rw[Qb4];exact a4⟩,by trivial⟩,e2⟩,by trivial⟩,o_⟩)|(have he:y2.1=busyOf l.conns:=by rw[Ab6 (l:=l.conns) (i:=y2.2.1.toNat) o_,Qd5] at a4;exact a4)
 all_goals simp only[he,rn1,rn2,rn3] at *
 all_goals first|trivial|omega|skip
 all_goals first|exact⟨o_,o_,o_,o_,o_⟩|exact⟨o_,o_⟩|exact⟨o_,⟨o_,o_⟩,o_⟩|skip
 all_goals
  have hs1:(useGuess l.guesses (reqTo l)).2.1.body.size+(useGuess l.guesses (reqTo l)).2.1.bj.size<=1048576:=hu;have hs2:(fetchNow l.net l.page.addr.host (reqTo l) false).2.body.size+(fetchNow l.net l.page.addr.host (reqTo l) false).2.bj.size<=1048576:=hf
 all_goals first|exact⟨q1,o_,o_,o_⟩|exact⟨o_,o_⟩|skip
 all_goals unfold requestNext
 all_goals first|(rw[Qa2 ‹_›];exact⟨rfl,rfl⟩)|(rw[Qa4 o_])
 all_goals first|(rw[Qa2 ‹_›];exact⟨rfl,rfl⟩)|(rw[Qa4 (by rw[show(useGuess l.guesses (reqTo l)).2.2=false from ‹_›];decide)])
 all_goals first|(rw[Qa2 o_];exact⟨rfl,rfl⟩)|(rw[Qa4 o_];exact⟨rfl,rfl⟩)|skip)
theorem Rd {α:Type} (f:α->Nat) (g:α->α) (h:∀ x,f (g x)=f x):∀ (l:List α) (i:Nat),szL f (l.modify i g)=szL f l
 | [],0=>rfl
 | [],_+1=>rfl
 | x::l,0=>by show szL f (g x::l)=_;rw[Aw,Aw,h]
 | x::l,i+1=>by show szL f (x::l.modify i g)=_;rw[Aw,Aw,Rd f g h l i]
theorem keep_net_sz (n:Su_) (t:ByteArray) (a:Sb_) (x:Sd_):szNet (keepAnswer n t a x)<=szNet n+(t.size+szAddr a+Ae x+20):=by
 unfold keepAnswer;split
 ·have:=Tq n.cache t a x n.now;simp only[szNet];omega
 ·omega
theorem Af8 (l:List Sj_) (a:Sb_) (x:Sd_) (g:Bool):szL Bl (openConn l a x g).1<=szL Bl l+(szAddr a+Ae x+1):=by
 unfold openConn;split
 ·simp only;omega
 ·simp only;rw[Ek];simp only[Bl];omega
theorem Yc {l:Sc_} (h:AD l<=1048576) (b1 : -9223372036854775808<=l.page.block) (b2:l.page.block<=9223372036854775807):okRN l:=by
 have c1:=Ac Bl l.conns;have c2:=Ac Bj l.guesses;have c3:=Ac Ad l.parts;have c4:=Ac AA l.page.bf;have c5:=Ac Aj l.page.bh;simp only[AD] at h;have hi:okAll l.page 2000000 1100000000 10000000:=OS o_;have hp:szL AA l.page.bf+szL Aj l.page.bh<=szPage l.page:=by simp only[szPage];omega
 have hn:szL AR l.net.servers+szCache l.net.cache<=szNet l.net:=by simp only[szNet];omega
 have hc:szCache l.net.cache=szL AE l.net.cache.bg:=rfl;refine⟨⟨⟨⟨_,_,_,hi,o_,o_,o_⟩,⟨λs hs=>?_,λm hm=>?_⟩,o_⟩,b1,b2,o_⟩,⟨o_,λc hc=>?_⟩,⟨o_,λg hg=>?_⟩,o_,o_,o_,λe he=>?_⟩
 ·have:=Ep AA hs;simp only[AA] at this;omega
 ·have:=Ep Aj hm;simp only[Aj] at this;omega
 ·have:=Ep Bl hc;simp only[Bl] at this;omega
 ·have:=Ep Bj hg;simp only[Bj] at this;omega
 ·have:=Ep AE he;simp only[AE] at this;omega
theorem Ah2 (l:Sc_) (b1 : -9223372036854775808<=l.page.block) (b2:l.page.block<=9223372036854775807) (h:AD l<=1048576):okRN l/\AD (requestNext l).1<=1125899906842624:=by
 have hr:=Yc h b1 b2;refine⟨hr,?_⟩;have h0:=h;simp only[AD] at h;have hi:okAll l.page 2000000 1100000000 10000000:=OS o_;have ha:l.page.addr.host.size<=szPage l.page:=by simp only[szPage,szAddr];omega
 unfold requestNext;split
 ·exact Qd7 h0 o_
 ·rename_i hk;have ht:=AfA hr.1.1.2.1 (show 0<=reqPick l from o_);split
  ·have hu:=RP (a:=reqTo l) hr.2.2.1.2;have hk2:=keep_net_sz l.net l.page.addr.host (reqTo l) (useGuess l.guesses (reqTo l)).2.1;have hz:=G6 (Yw hi (reqTo l) (useGuess l.guesses (reqTo l)).2.1) o_ o_ o_;have hg:szL Bj (useGuess l.guesses (reqTo l)).1=szL Bj l.guesses:=by
    unfold useGuess;split
    ·rfl
    ·exact Rd Bj (λg:Sm_=>{ g with used:=true }) (λ_=>rfl) _ _
   simp only[AD];omega
  ·split
   ·exact Qd7 h0 o_
   ·have h1:=Kq l.net l.page.addr.host (reqTo l) false;have h2:=Tu l.net l.page.addr.host (reqTo l) false;have h3:=Af8 l.conns (reqTo l) (fetchNow l.net l.page.addr.host (reqTo l) false).2 false;simp only[AD];omega
theorem FO (p:Sa_) (m:Int) (to d:ByteArray) (n:Int):(addSlot p m to d n).1.addr=p.addr:=by unfold addSlot;split<;>rfl
theorem Tf (p:Sa_) (a:Sb_):(askModule p a).addr=p.addr:=by unfold askModule;split<;>rfl
theorem Ou (p:Sa_) (to:ByteArray):(addEntry p to).addr=p.addr:=by
 unfold addEntry;split
 ·exact Tf p _
 ·rfl
theorem PP (p:Sa_) (t:Sh_) (n:Int):(element p t n).addr=p.addr:=by
 unfold element;split
 ·exact FO ..
 ·split
  ·exact FO ..
  ·rfl
theorem RF (p:Sa_) (n:Int):(script p n).addr=p.addr:=by
 unfold script;split
 ·split<;>rfl
 ·split
  ·exact FO ..
  ·split
   ·exact Ou ..
   ·exact FO p ..
theorem TK (p:Sa_) (s:ByteArray):(say p s).addr=p.addr:=by unfold say;split<;>rfl
theorem Hq (p:Sa_) (c:ByteArray) (w:Bool):(runCode p c w).addr=p.addr:=by unfold runCode;split<;>rfl
theorem MZ (p:Sa_):(takeToken p).1.addr=p.addr:=by
 unfold takeToken;split
 ·rfl
 ·show(takeTok p _).addr=_;unfold takeTok;split
  ·exact PP _ _ _
  ·split
   ·exact RF _ _
   ·rfl
theorem R3 (p:Sa_):(stepParser p).1.addr=p.addr:=by
 unfold stepParser;split
 ·unfold stepInline;split
  ·exact Hq _ _ _
  ·rfl
 ·split
  ·unfold stepBlock;split
   ·rfl
   ·split
    ·rfl
    ·split
     ·exact Hq _ _ _
     ·rfl
  ·exact MZ p
theorem Ja (p:Sa_):∀ (l:List Sb_) (q:Sa_),(enterAll p q l).addr=q.addr
 | [],q=>rfl
 | b::l,q=>by have:=Ja p l (enter1 p q b);refine this.trans ?_;unfold enter1;split<;>rfl
theorem Vb (p:Sa_) (a:Sb_):(enter p a).addr=p.addr:=by
 unfold enter;split
 ·exact TK _ _
 ·exact Ja p _ p
theorem Aaw (p:Sa_):(stepTail p).1.addr=p.addr:=by
 unfold stepTail;split
 ·rfl
 ·split
  ·unfold tailDefer;split
   ·rfl
   ·split
    ·exact Hq _ _ _
    ·rfl
  ·split
   ·unfold tailEnter;split
    ·rfl
    ·exact Vb _ _
   ·split
    ·rfl
    ·exact TK _ _
theorem Uo:∀ (n:Nat) (p:Sa_),(adv n p).addr=p.addr
 | 0,p=>rfl
 | n+1,p=>by
  rw[adv];split
  ·refine(Uo n _).trans ?_;unfold step1;split
   ·exact R3 p
   ·exact Aaw p
  ·rfl
theorem Q2:∀ (l:List Sb_) (p:Sa_),(l.foldl askModule p).addr=p.addr
 | [],p=>rfl
 | b::l,p=>(Q2 l (askModule p b)).trans (Tf p b)
theorem L2 (p:Sa_) (a:Sb_) (x:Sd_):(takeAnswer p a x).addr=p.addr:=by
 refine(Uo 2000 _).trans ?_;unfold fillModule;split
 ·rfl
 ·exact Q2 _ _
def Xc:Fct:=⟨[.v (.el .request),.p (.el .conn)],[.el .bool],λ(x_:Sf_×Sj_×Unit)=>True,λ(x_:Sf_×Sj_×Unit)=>(decide (x_.1.to=x_.2.1.to),())⟩
def AmL:=AnT.a Xc<|Fct.o [1,2,3] AnT.2 func240 (by
 rintro⟨(r:Sf_),(c:Sj_),_⟩ hp;refine ho (.lf Xc (r.to.host==c.to.host&&(r.to.path==c.to.path&&true),())) ?_;refine lfY ?_;all_goals
  try simp only[Di] at *
  try simp only[Xc,std,Nat.reduceAdd] at *
  try simp(disch:=omega) only[wrapId',toNat1] at *
  try simp(disch:=omega) only[Qa2,Qa4]
 all_goals first|trivial|omega|grind[wrapId',toNat1,drop_cons,drop_end,good_len,maxLen])
def AI:Fct:=⟨[aL .request,.c 240 [.el .conn]],[rI],λx=>x.1.length<=1000000000000000000/\∀ c,Xc.pre (c,x.2.1),λx=>(fidx (λc=>(Xc.fn (c,x.2.1)).1) x.1 0,())⟩
abbrev Ah (l:(List Sf_)) (u:(Sj_×Unit)):LInv:=⟨[⟨.s,8,true,.el .int⟩],λ_ (x_:Int×Unit)=>0<=x_.1/\x_.1<=l.length/\fidx (λc=>(Xc.fn (c,u)).1) l 0=fidx (λc=>(Xc.fn (c,u)).1) (l.drop x_.1.toNat) x_.1,λ(x_:Int×Unit)=>l.length-x_.1.toNat⟩
def Aj3:=AmL.a AI<|Fct.p (KP [0,1,4,5,7,8] [9,16]) (λ⟨l,u,_⟩=>lv [(2,Ah l u)]) AmL.2 func316 (by
 rintro⟨(l:List Sf_),(u:Sj_×PUnit),_⟩ hp;refine ho (lpx (Ah l u) ((0:Int),()) λ(y1:Int×PUnit) bk1=>.br (decide (y1.1<(l.length:Int))) (.ob (inB y1.1 l.length)<|.cl Xc (l.getD y1.1.toNat default,u.1,()) λz2=>.br (z2.1) (.lf AI (y1.1,())) (.ob (l=l)<|.ob (enc Ty.conn u.1=enc Ty.conn u.1)<|.ob (Value.int IntKind.i64 (l.length:Int)=Value.int IntKind.i64 (l.length:Int))<|.ob (bk1 (w1 y1.1,()))<|.ok)) (.lf AI ((-1:Int),()))) ?_;refine An ?_ λ(y1:Int×PUnit) i1=>Ab (λh2=>Aa ?_ λ_=>Af trivial λ_=>(Ab (λh4=>lfY ?_) (λh4=>Aa rfl λ_=>Aa rfl λ_=>Aa rfl λ_=>Aa ?_ λ_=>trivial))) (λh2=>lfY ?_)
 all_goals
  try simp only[Ah,AI,Xc,std,Nat.reduceAdd] at *
  try have hp2:=hp.2
  try have hp1:=hp.1
 all_goals first|trivial|omega|grind[wrapId',toNat1,drop_cons,drop_end,good_len,maxLen,fidx])
def AM:Fct:=⟨[aL .request,.c 240 [.el .conn]],[rB],λx=>x.1.length<=1000000000000000000/\∀ c,Xc.pre (c,x.2.1),λx=>(x.1.any (λc=>(Xc.fn (c,x.2.1)).1),())⟩
def Amb:=Aj3.a AM<|Fct.o [0,1,4] Aj3.2 func239 (by
 rintro⟨(l:List Sf_),(u:Sj_×PUnit),_⟩ hp;refine ho (.cl AI (l,(u.1,()),()) λ(z2:Int×PUnit)=>.lf AM (decide (z2.1>=0),())) ?_;refine Af ?_ λ_=>(lfY ?_)
 all_goals try simp only[AM,AI,std,Nat.reduceAdd] at *
 all_goals first|trivial|omega|(rw[Bool.eq_iff_iff];exact decide_eq_true_iff.trans (Im _ _ _ o_)))
def needsTo (p:Sa_) (a:Sb_):Bool:=(nextNeeds p).any λr=>decide (r.to=a)
def finishC (l:Sc_) (c:Sj_):Sc_ :=
 if needsTo l.page c.to=true then(if c.guess=true then{ l with net:=keepAnswer l.net l.page.addr.host c.to c.bd,page:=takeAnswer l.page c.to c.bd } else{ l with page:=takeAnswer l.page c.to c.bd })
 else if c.guess=true then{ l with guesses:=(addGuess l.guesses c.to c.bd).1 } else l
def finish1 (l:Sc_) (k:Int):Sc_:=finishC { l with conns:=closeConn l.conns k } (l.conns.getD k.toNat default)
def okFin (l:Sc_):Prop:=(okFM l.page/\l.page.bf.length+l.page.bh.length<=1000000000000)/\(l.conns.length<=1048576/\okCs l.conns)/\l.guesses.length<=4194304/\szNet l.net<=10000000000/\szCache l.net.cache<=90000000
theorem AgM {α:Type} [Inhabited α] (f:α->Bool) {l:List α} {i:Nat} (h:i<l.length):(l.drop i).any f=(f (l.getD i default)||(l.drop (i+1)).any f):=by rw[drop_cons h];rfl
theorem Abw {α:Type} (f:α->Bool) {l:List α} {i:Nat} (h:l.length<=i):(l.drop i).any f=false:=by rw[Qb0 h];rfl
def FN:GS:=⟨[.g (.el .loader),.l (.v (.el .int))],[.el .loader],λ(x_:Sc_×Int×Unit)=>okFin x_.1/\0<=x_.2.1/\x_.2.1<x_.1.conns.length,λ(x_:Sc_×Int×Unit)=>((finish1 x_.1 x_.2.1,()),(()))⟩
abbrev Ce (l:Sc_) (k:Int):LInv:=⟨[⟨.s,7,true,.el .int⟩,⟨.b,2,true,.el .loader⟩,⟨.b,4,true,.el .loader⟩,⟨.b,5,true,.el .conn⟩,⟨.s,6,true,.sl .request⟩],λ_ (x_:Int×Sc_×Sc_×Sj_×(List Sf_)×Unit)=>x_.2.1={ l with conns:=closeConn l.conns k }/\x_.2.2.2.1=l.conns.getD k.toNat default/\x_.2.2.2.2.1=nextNeeds l.page/\0<=x_.1/\x_.1<=(nextNeeds l.page).length/\((nextNeeds l.page).drop x_.1.toNat).any (λr=>decide (r.to=(l.conns.getD k.toNat default).to))=needsTo l.page (l.conns.getD k.toNat default).to,λ(x_:Int×Sc_×Sc_×Sj_×(List Sf_)×Unit)=>(nextNeeds l.page).length-x_.1.toNat⟩
def AnQ:=Amb.G FN<|GS.of (S:=FN) (L:=λ⟨l,k,_⟩=>λ|5=>some (Ce l k)|_=>none) (kp:=(KP [1,2,4,5,6,7] [24,34,36,59])) Amb.2 func211 k_ k_ (by
 rintro⟨(l:Sc_),(k:Int),_⟩ hp;refine ho (.ob (inB k l.conns.length)<|.ob (k.toNat<l.conns.length)<|.cl Co (l.conns,k,()) λz2=>.cl Bx (l.page,()) λz3=>lpx (Ce l k) ((0:Int),(({l with conns:=z2.1}:Sc_),(default,(l.conns.getD k.toNat default,(z3.1,()))))) λ(y5:Int×Sc_×Sc_×Sj_×List Sf_×PUnit) bk5=>let q0_:=y5.2.2.2.2.1.getD y5.1.toNat default;.br (decide (y5.1<(y5.2.2.2.2.1.length:Int))) (.ob (inB y5.1 y5.2.2.2.2.1.length)<|.ob (y5.1.toNat<y5.2.2.2.2.1.length)<|.br (q0_.to.host==y5.2.2.2.1.to.host&&(q0_.to.path==y5.2.2.2.1.to.path&&true)) (.br (y5.2.2.2.1.guess) (.cl fKeepAnswer (y5.2.1.net,y5.2.1.page.addr.host,y5.2.2.2.1.to,y5.2.2.2.1.bd,()) λz4=>.cl A5 (y5.2.1.page,y5.2.2.2.1.to,y5.2.2.2.1.bd,()) λz5=>GS.out FN (({y5.2.1 with net:=z4.1,page:=z5.1},()),(()))) (.cl A5 (y5.2.1.page,y5.2.2.2.1.to,y5.2.2.2.1.bd,()) λz6=>GS.out FN (({y5.2.1 with page:=z6.1},()),(())))) (.ob (Value.int IntKind.i64 k=Value.int IntKind.i64 k)<|.ob (bk5 (w1 y5.1,(y5.2.1,(y5.2.2.1,(y5.2.2.2.1,(y5.2.2.2.2.1,()))))))<|.ok)) (.br (y5.2.2.2.1.guess) (.cl CU (y5.2.1.guesses,y5.2.2.2.1.to,y5.2.2.2.1.bd,()) λz7=>GS.out FN (({y5.2.1 with guesses:=z7.1},()),(()))) (GS.out FN ((y5.2.1,()),(()))))) ?_;repeat' first|(guard_target =~ Out.holds _ _;first|refine An (li:=Ce l k) ?_ λ(y5:Int×Sc_×Sc_×Sj_×List Sf_×PUnit) i5=>?_|refine GS.leafY ?_|refine Ab (λ_=>?_) λ_=>?_|refine Af ?_ λ_=>?_|refine Aa ?_ λ_=>?_)|exact trivial
 all_goals obtain⟨⟨⟨q1,q2⟩,⟨q3,q4⟩,q5,q6,q7⟩,q8,q9⟩:=(show okFin l/\0<=k/\k<l.conns.length from hp)
 all_goals
  try simp only[Hg] at *
  try simp only[Ce,CU,Co,FN,fKeepAnswer,Bx,A5,std,Nat.reduceAdd] at *
 all_goals first|trivial|omega|exact⟨o_,o_,rfl⟩|skip
 all_goals
  have hc:=q4 _ (Ba (show k.toNat<l.conns.length from o_));have hc1:(l.conns.getD k.toNat default).bd.body.size+(l.conns.getD k.toNat default).bd.bj.size<=1048576:=hc.1;have hok:=Dm (Ei q1);have hn:=Fp l.page;have hh:l.page.addr.host.size<=4000000:=by have:=hok.2.1;simp only[szAddr] at this;omega
 all_goals (obtain⟨e1,e2,e3,a1,a2,a3⟩:=i5;simp only[e1,e2,e3,Di,Qa7,Qa9] at *)
 all_goals first|trivial|omega|exact⟨o_,o_,o_,o_,o_⟩|exact⟨q1,o_,o_,o_⟩|skip
 all_goals first|(have e:=AgM (λr:Sf_=>decide (r.to=(l.conns.getD k.toNat default).to)) (l:=nextNeeds l.page) (i:=y5.1.toNat) o_)|(have e:=Abw (λr:Sf_=>decide (r.to=(l.conns.getD k.toNat default).to)) (l:=nextNeeds l.page) (i:=y5.1.toNat) o_)
 all_goals rw[a3] at e
 all_goals first|(rw[show decide (((nextNeeds l.page).getD y5.1.toNat default).to=(l.conns.getD k.toNat default).to)=false from Qg6 ‹_›,Bool.false_or] at e;rw[Ag o_,show(y5.1+1).toNat=y5.1.toNat+1 from o_];exact⟨⟨trivial,trivial,trivial,o_,o_,e.symm⟩,o_⟩)|skip
 all_goals first|(rw[show decide (((nextNeeds l.page).getD y5.1.toNat default).to=(l.conns.getD k.toNat default).to)=true from Qf0 ‹_›,Bool.true_or] at e)|skip
 all_goals first|(have hg:(l.conns.getD k.toNat default).guess=true:=by assumption)|(have hg:(l.conns.getD k.toNat default).guess=false:=by assumption)|skip
 all_goals (unfold finish1 finishC;dsimp only;simp only[e,hg,Qd4,Qe8,Qe6]))
theorem MM {s:ByteArray} (h:isName s=true):s.size<=8:=by
 unfold isName at h;simp only[Qa1,Qa7] at h;exact h.2.2
theorem ZK (p:Si_):(formatPolicy p).size<=300:=by
 unfold formatPolicy;split
 ·rename_i h;simp only[Qa1] at h;obtain⟨a1,a2,a3,a4,a5,a6,a7⟩:=FX h.1 h.2;have b1:=GO p.bp ⟨#[115,99,114,105,112,116]⟩ a1;have b2:=GO p.styles ⟨#[115,116,121,108,101]⟩ a3;have b3:=GO p.images ⟨#[105,109,103]⟩ a5;have c1:(⟨#[115,99,114,105,112,116]⟩:ByteArray).size=6:=rfl;have c2:(⟨#[115,116,121,108,101]⟩:ByteArray).size=5:=rfl;have c3:(⟨#[105,109,103]⟩:ByteArray).size=3:=rfl;have c4:(⟨#[59]⟩:ByteArray).size=1:=rfl;have c5:(⟨#[59,110,111,110,99,101,32]⟩:ByteArray).size=7:=rfl;split<;>(simp only[Qb3];omega)
 ·exact Nat.zero_le _
theorem YZ {x:Sd_} (h:isResponse x=true):Ae x<=700:=by
 unfold isResponse at h;simp only[Qa1,Qa7] at h;obtain⟨_,_,h1,_,h2⟩:=h;have h3:x.bj.size<=300:=by
  unfold parsePolicy at h2;split at h2
  ·rename_i e;rw[e];exact Nat.zero_le _
  ·split at h2
   ·rename_i e;rw[<-e.2];exact ZK _
   ·cases h2
 simp only[Ae];omega
theorem Uc {all:List Sq_}:∀ {l:List Sq_} {k:Int},entOk all l k=true->szL AE l<=800*l.length
 | [],_,_=>Qa8 _
 | e::l,k,h=>by simp only[entOk,Qa1] at h;obtain⟨⟨⟨⟨⟨h1,h2,h3⟩,h4⟩,_⟩,_⟩,h5⟩:=h;have a1:=MM h1;have a2:=MM h2;have a3:=MM h3;have a4:=YZ h4;have a5:=Uc h5;rw[Aw,Qa6];simp only[AE,szAddr];omega
theorem VN {c:Sl_} (h:isCache c=true):szCache c<=80000:=by
 unfold isCache at h;simp only[Qa1,Qa7] at h;have:=Uc h.1;simp only[szCache];omega
theorem AbE (c:Sl_) (t:ByteArray) (a:Sb_) (x:Sd_) (now:Int) {B:Nat} (h:szCache c<=B) (hB:80000<=B):szCache (storeEntry c t a x now)<=B:=by
 unfold storeEntry;split
 ·rename_i q;exact Qd7 (VN q.2.2.2) hB
 ·exact h
def okNk (n:Su_):Prop:=szNet n<=szCache n.cache+9000000000/\szCache n.cache<=90000000
theorem keep_okNk {n:Su_} (h:okNk n) (t:ByteArray) (a:Sb_) (x:Sd_):okNk (keepAnswer n t a x):=by
 unfold keepAnswer;split
 ·have:=AbE n.cache t a x n.now h.2 o_;refine⟨?_,this⟩;have h1:=h.1;simp only[szNet] at *;omega
 ·exact h
def wB (x:Sd_):Nat:=min 400 x.body.size
def wCs (l:List Sj_):Nat:=(l.map λc=>wB c.bd).sum
theorem Zw (p:Si_) (r:Sf_) (x:Sd_):(usable p r x).1.size<=wB x:=by
 have h1:=Jq p r x;have h2:(usable p r x).1.size<=x.body.size:=by
  unfold usable;split
  ·exact Qa8 _
  ·exact Nat.zero_le _
 unfold wB;omega
theorem M4 {p:Sa_} {Q M R:Nat} (h:okAll p Q M R) (a:Sb_) (x:Sd_):okAll (fillModule p a x) Q (M+600*wB x) (R+20*wB x):=by
 have mono:∀ {q:Sa_} {M' R':Nat},okAll q Q M' R'->M'<=M+600*wB x->R'<=R+20*wB x->okAll q Q (M+600*wB x) (R+20*wB x):=λh hM hR=>by obtain⟨h1,h2,h3,⟨h4,h5,h6,h7⟩,h8⟩:=h;exact⟨h1,h2,h3,⟨h4,o_,o_,h7⟩,h8⟩
 unfold fillModule;split
 ·exact mono h o_ o_
 ·rename_i hc;have h0:0<=findMod p.bh a:=o_
  have hd:(p.bh.getD (findMod p.bh a).toNat default).done=false:=by
   cases hq:(p.bh.getD (findMod p.bh a).toNat default).done with
   | false=>rfl
   | true=>exact absurd (.inr hq) hc
  obtain⟨i1,_⟩:=Mb (x:=x) h0;have i2:(imports (fillM0 p a x) a).1.length<=wB x:=by
   obtain⟨_,h2⟩:=Ev (fillM0 p a x) a;obtain⟨f1,f2⟩:=GV p a x h0;rw[f1,f2] at h2;rcases h2 with h2|⟨_,h2⟩
   ·rw[h2];exact Nat.zero_le _
   ·exact Qd7 h2 (Zw ..)
  exact mono (Sx _ _ M R (LZ h a x h0 hd) i1) o_ o_
theorem Vp {p:Sa_} {Q M R:Nat} (h:okAll p Q M R) (a:Sb_) (x:Sd_):okAll (takeAnswer p a x) (Q+740000) (M+600*wB x) (R+20*wB x):=by
 have:=IP h a x p.bf.length;rw[Gw (Qa8 _)] at this;exact Js (M4 this a x)
def okPot (l:Sc_):Prop:=∃ Q M R,okAll l.page Q M R/\Q+740000*l.conns.length<=899000000000/\M+600*wCs l.conns<=49000000000/\R+20*wCs l.conns<=19000000000
def okT (l:Sc_):Prop:=okPot l/\(okCs l.conns/\l.conns.length<=1048576/\l.guesses.length+l.conns.length<=4194304)/\okNk l.net
theorem O6 {l:Sc_} (h:okT l):okFin l:=by
 obtain⟨⟨Q,M,R,h1,h2,h3,h4⟩,⟨h5,h6a,h6⟩,h7,h8⟩:=h;have hf:okFM l.page:=⟨Q,M,R,h1,o_,o_,o_⟩;have hp:=Dm (Ei hf);exact⟨⟨hf,o_⟩,⟨o_,h5⟩,o_,o_,h8⟩
theorem KG {l:List Sj_} {k:Int} (h0:0<=k) (h:k<l.length):closeConn l k=l.take k.toNat++l.drop (k.toNat+1):=by unfold closeConn;rw[Qa2 ⟨h0,h⟩]
theorem IL {l:List Sj_} {k:Int} (h0:0<=k) (h:k<l.length):(closeConn l k).length+1=l.length:=by
 rw[KG h0 h,Qa3,Qc1,Qd8];omega
theorem X7 {l:List Sj_} {k:Int} (h0:0<=k) (h:k<l.length):wCs (closeConn l k)+wB (l.getD k.toNat default).bd=wCs l:=by
 have e:l.take k.toNat++l.getD k.toNat default::l.drop (k.toNat+1)=l:=by rw[<-drop_cons (show k.toNat<l.length from o_),Qd3]
 have g:wCs (l.take k.toNat++l.getD k.toNat default::l.drop (k.toNat+1))=wCs l:=by rw[e]
 rw[KG h0 h];unfold wCs at *
 simp only[List.map_append,Qd0,List.sum_append,List.sum_cons] at *
 omega
theorem AcZ {l:List Sj_} {k:Int} (h0:0<=k) (h:k<l.length):szL Bl (closeConn l k)+(Bl (l.getD k.toNat default)+1)=szL Bl l:=by
 have e:l.take k.toNat++l.getD k.toNat default::l.drop (k.toNat+1)=l:=by rw[<-drop_cons (show k.toNat<l.length from o_),Qd3]
 have g:szL Bl (l.take k.toNat++l.getD k.toNat default::l.drop (k.toNat+1))=szL Bl l:=by rw[e]
 rw[KG h0 h];rw[De,Aw] at g;rw[De];omega
theorem AaY {l:List Sj_} {k:Int} (h0:0<=k) (h:k<l.length) (ho:okCs l):okCs (closeConn l k):=by
 rw[KG h0 h];intro c hc;rcases Qc0.1 hc with q|q
 ·exact ho c (List.mem_of_mem_take q)
 ·exact ho c (List.mem_of_mem_drop q)
theorem Abq (l:List Sm_) (a:Sb_) (x:Sd_):(addGuess l a x).1.length<=l.length+1:=by
 unfold addGuess;split
 ·exact Nat.le_succ _
 ·simp only[Qa3,Qa6,Qb9];omega
theorem AgR (l:List Sm_) (a:Sb_) (x:Sd_):szL Bj (addGuess l a x).1<=szL Bj l+(szAddr a+Ae x+1):=by
 unfold addGuess;split
 ·simp only;omega
 ·simp only;rw[Ek];simp only[Bj];omega
theorem QO (l:Sc_) (k:Int):(finish1 l k).conns=closeConn l.conns k:=by
 unfold finish1 finishC;split
 ·split<;>rfl
 ·split<;>rfl
theorem ZR (l:Sc_) (k:Int):(finish1 l k).parts=l.parts:=by
 unfold finish1 finishC;split
 ·split<;>rfl
 ·split<;>rfl
theorem Tm {l:Sc_} {k:Int} (h:okT l) (h0:0<=k) (hk:k<l.conns.length):okT (finish1 l k):=by
 obtain⟨⟨Q,M,R,h1,h2,h3,h4⟩,⟨h5,h6a,h6⟩,h7⟩:=h;have c1:=IL h0 hk;have c2:=X7 h0 hk;have c3:=AaY h0 hk h5;have ha:=Vp h1 (l.conns.getD k.toNat default).to (l.conns.getD k.toNat default).bd;have hg:=Abq l.guesses (l.conns.getD k.toNat default).to (l.conns.getD k.toNat default).bd;unfold finish1 finishC;dsimp only;split
 ·split
  ·exact⟨⟨_,_,_,ha,by dsimp only;omega,by dsimp only;omega,by dsimp only;omega⟩,⟨c3,by dsimp only;omega,by dsimp only;omega⟩,keep_okNk h7 _ _ _⟩
  ·exact⟨⟨_,_,_,ha,by dsimp only;omega,by dsimp only;omega,by dsimp only;omega⟩,⟨c3,by dsimp only;omega,by dsimp only;omega⟩,h7⟩
 ·split
  ·exact⟨⟨_,_,_,h1,by dsimp only;omega,by dsimp only;omega,by dsimp only;omega⟩,⟨c3,by dsimp only;omega,by dsimp only;omega⟩,h7⟩
  ·exact⟨⟨_,_,_,h1,by dsimp only;omega,by dsimp only;omega,by dsimp only;omega⟩,⟨c3,by dsimp only;omega,by dsimp only;omega⟩,h7⟩
theorem EA:∀ (l:List Sj_) (z:Int),0<=z->-1<=firstDone l z/\firstDone l z<z+l.length/\(firstDone l z<0\/z<=firstDone l z)
 | [],z,h=>by
  rw[firstDone,Qb9];omega
 | c::l,z,h=>by have:=EA l (z+1) o_;rw[firstDone,Qa6];split<;>omega
def xfer:Nat->Sc_->Sc_
 | 0,l=>l
 | n+1,l=>if firstDone l.conns 0<0 then l else xfer n (finish1 l (firstDone l.conns 0))
theorem Xx {l:Sc_} (h:firstDone l.conns 0<0):∀ n,xfer n l=l
 | 0=>rfl
 | n+1=>by rw[xfer,Qa2 h]
theorem Agr {l:Sc_} {n:Nat} (h:0<=firstDone l.conns 0):xfer (n+1) l=xfer n (finish1 l (firstDone l.conns 0)):=by rw[xfer,Qa4 o_]
def moved (l:Sc_) (b:Int):Sc_:={ l with conns:=moveConns l.conns b }
def transfer (l:Sc_) (b:Int):Sc_×Bool:=if l.conns.length=0\/inRange b 1 1000=false then(l,false) else(xfer l.conns.length (moved l b),true)
theorem Ahg (l:List Sj_) (b:Int):wCs (moveConns l b)=wCs l:=by
 unfold moveConns;split
 ·unfold wCs;rw[Qg2];rfl
 ·rfl
theorem AfV (l:List Sj_) (b:Int):szL Bl (moveConns l b)=szL Bl l:=by
 unfold moveConns;split
 ·unfold szL;rw[Qg2,Qe9];rfl
 ·rfl
theorem Agf {l:List Sj_} (b:Int) (h:okCs l):okCs (moveConns l b):=by
 unfold moveConns;split
 ·intro c hc;obtain⟨d,hd,rfl⟩:=Qg7.1 hc;exact h d hd
 ·exact h
theorem Tv {l:Sc_} (h:okT l) (b:Int):okT (moved l b):=by
 obtain⟨⟨Q,M,R,h1,h2,h3,h4⟩,⟨h5,h6a,h6⟩,h7⟩:=h;have e1:=DO l.conns b;have e2:=Ahg l.conns b;unfold moved;exact⟨⟨Q,M,R,h1,by dsimp only;omega,by dsimp only;omega,by dsimp only;omega⟩,⟨Agf b h5,by dsimp only;omega,by dsimp only;omega⟩,h7⟩
def xInv (l0 l:Sc_) (n:Nat):Prop:=okT l/\l.conns.length<=n/\xfer n l=l0
theorem Qp {l0 l:Sc_} {n:Nat} (h:xInv l0 l (n+1)) (h0:0<=firstDone l.conns 0):xInv l0 (finish1 l (firstDone l.conns 0)) n:=by
 obtain⟨h1,h2,h3⟩:=h;have hd:=EA l.conns 0 o_;rw[Agr h0] at h3;have hl:=IL h0 (show firstDone l.conns 0<l.conns.length from o_);exact⟨Tm h1 h0 o_,by rw[QO];omega,h3⟩
theorem QG {l0 l:Sc_} {n:Nat} (h:xInv l0 l n) (h0:firstDone l.conns 0<0):l=l0:=by
 have:=h.2.2
 rwa [Xx h0] at this
def okTr (l:Sc_):Prop:=okT l/\l.parts.length<=1000000000
theorem KQ {l:Sc_} (h:okT l) (hp:l.parts.length<=1000000000):szNet l.net<=68719476736/\szPage l.page<=1099511627776/\l.parts.length<=1000000000/\l.conns.length<=1048576/\l.guesses.length<=4194304:=by
 have hf:=O6 h;have hq:=Dm (Ei hf.1.1);exact⟨by have:=hf.2.2.2.1;omega,o_,hp,hf.2.1.1,hf.2.2.1⟩
theorem Abs {l:Sc_} {b:Int} (h:l.conns.length=0\/inRange b 1 1000=false):transfer l b=(l,false):=by unfold transfer;rw[Qa2 h]
theorem Adv {l:Sc_} {b:Int} (h1:¬ l.conns.length=0) (h2:inRange b 1 1000=true):transfer l b=(xfer l.conns.length (moved l b),true):=by
 unfold transfer;rw[Qa4 (by rintro(q|q);exact h1 q;rw[h2] at q;cases q)]
theorem AdZ {l:Sc_} (h:okT l) (b:Int):xInv (xfer l.conns.length (moved l b)) { net:=l.net,page:=l.page,parts:=l.parts,conns:=moveConns l.conns b,guesses:=l.guesses } l.conns.length:=⟨Tv h b,Nat.le_of_eq (DO l.conns b),rfl⟩
theorem ZJ {l0 l:Sc_} (h:xInv l0 l l.conns.length) (h0:0<=firstDone l.conns 0):xInv l0 (finish1 l (firstDone l.conns 0)) (closeConn l.conns (firstDone l.conns 0)).length:=by
 have hd:=EA l.conns 0 o_;have hl:=IL h0 (show firstDone l.conns 0<l.conns.length from o_);rw[<-hl] at h;exact Qp h h0
theorem AiR {l:Sc_} {k:Int} (h1:needsTo l.page (l.conns.getD k.toNat default).to=true) (h2:(l.conns.getD k.toNat default).guess=true):finish1 l k={ net:=keepAnswer l.net l.page.addr.host (l.conns.getD k.toNat default).to (l.conns.getD k.toNat default).bd,page:=takeAnswer l.page (l.conns.getD k.toNat default).to (l.conns.getD k.toNat default).bd,parts:=l.parts,conns:=closeConn l.conns k,guesses:=l.guesses }:=by
 unfold finish1 finishC;dsimp only;rw[Qa2 h1,Qa2 h2]
theorem AiL {l:Sc_} {k:Int} (h1:needsTo l.page (l.conns.getD k.toNat default).to=true) (h2:(l.conns.getD k.toNat default).guess=false):finish1 l k={ net:=l.net,page:=takeAnswer l.page (l.conns.getD k.toNat default).to (l.conns.getD k.toNat default).bd,parts:=l.parts,conns:=closeConn l.conns k,guesses:=l.guesses }:=by
 unfold finish1 finishC;dsimp only;rw[Qa2 h1,Qa4 (by rw[h2];decide)]
theorem Aja {l:Sc_} {k:Int} (h1:needsTo l.page (l.conns.getD k.toNat default).to=false) (h2:(l.conns.getD k.toNat default).guess=true):finish1 l k={ net:=l.net,page:=l.page,parts:=l.parts,conns:=closeConn l.conns k,guesses:=(addGuess l.guesses (l.conns.getD k.toNat default).to (l.conns.getD k.toNat default).bd).1 }:=by
 unfold finish1 finishC;dsimp only;rw[Qa4 (by rw[h1];decide),Qa2 h2]
theorem AiC {l:Sc_} {k:Int} (h1:needsTo l.page (l.conns.getD k.toNat default).to=false) (h2:(l.conns.getD k.toNat default).guess=false):finish1 l k={ net:=l.net,page:=l.page,parts:=l.parts,conns:=closeConn l.conns k,guesses:=l.guesses }:=by
 unfold finish1 finishC;dsimp only;rw[Qa4 (by rw[h1];decide),Qa4 (by rw[h2];decide)]
def Dl:Fct:=⟨[.v (.el .loader),.v (.el .int)],[.el .loader,.el .bool],λ(x_:Sc_×Int×Unit)=>okTr x_.1,λ(x_:Sc_×Int×Unit)=>((transfer x_.1 x_.2.1).1,(transfer x_.1 x_.2.1).2,())⟩
abbrev C6 (l:Sc_) (b:Int):LInv:=⟨[⟨.b,6,true,.el .loader⟩,⟨.s,7,true,.el .int⟩,⟨.b,2,false,.el .loader⟩,⟨.b,4,true,.el .loader⟩],λ(z_ x_:Sc_×Int×Sc_×Sc_×Unit)=>((0<=x_.2.1/\x_.2.1<=l.conns.length/\xInv (xfer l.conns.length (moved l b)) x_.1 (l.conns.length-x_.2.1.toNat))/\x_.2.2.1=z_.2.2.1)/\x_.2.2.2.1=z_.2.2.2.1,λ(x_:Sc_×Int×Sc_×Sc_×Unit)=>l.conns.length-x_.2.1.toNat⟩
def Amf:=AnQ.a Dl<|Fct.p (KP [1,2,4,5,6,7,8] [19,30,37]) (λ⟨l,b,_⟩=>lv [(6,C6 l b)]) AnQ.2 func135 (by
 rintro⟨(l:Sc_),(b:Int),_⟩ hp;refine ho (.cl fCopyLoader (l,()) λz2=>.br ((l.conns.length:Int)==0) (.lf Dl (z2.1,false,())) (.cl fInRange (b,(1:Int),(1000:Int),()) λz3=>.br (!z3.1) (.lf Dl (z2.1,false,())) (.cl IS (l.conns,b,()) λz4=>lpx (C6 l b) ((⟨z2.1.net,z2.1.page,z2.1.parts,z4.1,z2.1.guesses⟩:Sc_),((0:Int),(l,(default,())))) λ(y5:Sc_×Int×Sc_×Sc_×PUnit) bk5=>.br (decide (y5.2.1<(y5.2.2.1.conns.length:Int))) (.cl Gl (y5.1.conns,()) λ(z5:Int×PUnit)=>.br (decide (z5.1<0)) (.lf Dl (y5.1,true,())) (.ob (FN.pre (y5.1,z5.1,()))<|.lt _ (FN.fn (y5.1,z5.1,())) λz6=>.ob (Value.int IntKind.i64 b=Value.int IntKind.i64 b)<|.ob (bk5 (z6.1.1,(w1 y5.2.1,(y5.2.2.1,(y5.2.2.2.1,())))))<|.ok)) (.lf Dl (y5.1,true,()))))) ?_;refine Af ?_ λ_=>(Ab (λh2=>lfY ?_) (λh2=>Af trivial λ_=>(Ab (λh3=>lfY ?_) (λh3=>Af ?_ λ_=>(An ?_ λ(y5:Sc_×Int×Sc_×Sc_×PUnit) i5=>Ab (λh6=>Af ?_ λ_=>(Ab (λh8=>lfY ?_) (λh8=>Aa ?_ λ_=>DQ (Aa rfl λ_=>Aa ?_ λ_=>trivial)))) (λh6=>lfY ?_))))))
 all_goals obtain⟨q1,q2⟩:=(show okTr l from hp)
 all_goals
  have hc:=KQ q1 q2;try simp only[Hg] at *
  try simp only[C6,fCopyLoader,FN,Gl,fInRange,IS,Dl,std,Nat.reduceAdd] at *
 all_goals first|trivial|omega|exact hc|exact hc.2.2.2.1|(rw[Abs (.inl o_)];exact⟨rfl,rfl⟩)|(rw[Abs (.inr ‹_›)];exact⟨rfl,rfl⟩)|exact⟨o_,o_,AdZ q1 b⟩|skip
 all_goals (obtain⟨⟨⟨a1,a2,a3⟩,e1⟩,e2⟩:=i5;simp only[e1] at *)
 all_goals
  have hf:=O6 a3.1;have hd:=EA y5.1.conns 0 o_;have ha:=a3.2.1
 all_goals first|trivial|omega|exact hf.2.1.1|exact⟨hf,o_,o_⟩|(rw[Adv o_ ‹_›];exact⟨QG a3 o_,rfl⟩)|skip
 all_goals rw[show l.conns.length-y5.2.1.toNat=(l.conns.length-(y5.2.1.toNat+1))+1 from o_] at a3
 all_goals rw[Ag o_,show(y5.2.1+1).toNat=y5.2.1.toNat+1 from o_]
 all_goals exact⟨⟨⟨⟨o_,o_,Qp a3 o_⟩,by trivial⟩,e2⟩,o_⟩)
abbrev BY (l:Sc_) (b:Int):LInv:=⟨[⟨.b,6,true,.el .loader⟩,⟨.b,4,true,.el .loader⟩],λ(z_ x_:Sc_×Sc_×Unit)=>(xInv (xfer l.conns.length (moved l b)) x_.1 x_.1.conns.length)/\x_.2.1=z_.2.1,λ(x_:Sc_×Sc_×Unit)=>x_.1.conns.length⟩
def Alb:=Amf.a Dl<|Fct.p (KP [1,2,4,5,6,7,8,9] [20,31,48,59,72]) (λ⟨l,b,_⟩=>lv [(5,BY l b)]) Amf.2 func150 (by
 rintro⟨(l:Sc_),(b:Int),_⟩ hp;refine ho (let q1_:=Value.int IntKind.i64 b=Value.int IntKind.i64 b;.cl fCopyLoader (l,()) λz2=>let q2_:Out:=.lf Dl (z2.1,false,());.br ((l.conns.length:Int)==0) q2_ (.cl fInRange (b,(1:Int),(1000:Int),()) λz3=>.br (!z3.1) q2_ (.cl IS (z2.1.conns,b,()) λz4=>lpx (BY l b) (({z2.1 with conns:=z4.1}:Sc_),(default,())) λ(y5:Sc_×Sc_×PUnit) bk5=>.cl Gl (y5.1.conns,()) λ(z5:Int×PUnit)=>let q0_:=y5.1.conns.getD z5.1.toNat default;.br (decide (z5.1<0)) (.lf Dl (y5.1,true,())) (.ob (inB z5.1 y5.1.conns.length)<|.ob (z5.1.toNat<y5.1.conns.length)<|.cl Co (y5.1.conns,z5.1,()) λz6=>.cl Bx (y5.1.page,()) λz7=>.cl AM (z7.1,(y5.1.conns.getD z5.1.toNat default,()),()) λz8=>.br (z8.1) (.cl A5 (y5.1.page,q0_.to,q0_.bd,()) λz9=>.br (q0_.guess) (.cl fKeepAnswer (y5.1.net,z9.1.addr.host,q0_.to,q0_.bd,()) λz10=>.ob q1_<|.ob (bk5 ((⟨z10.1,z9.1,y5.1.parts,z6.1,y5.1.guesses⟩:Sc_),(y5.2.1,())))<|.ok) (.ob q1_<|.ob (bk5 (({y5.1 with page:=z9.1,conns:=z6.1}:Sc_),(y5.2.1,())))<|.ok)) (.br (q0_.guess) (.cl CU (y5.1.guesses,q0_.to,q0_.bd,()) λz11=>.ob q1_<|.ob (bk5 (({y5.1 with conns:=z6.1,guesses:=z11.1}:Sc_),(y5.2.1,())))<|.ok) (.ob q1_<|.ob (bk5 (({y5.1 with conns:=z6.1}:Sc_),(y5.2.1,())))<|.ok)))))) ?_;repeat' first|(guard_target =~ Out.holds _ _;first|refine An (li:=BY l b) ?_ λ(y5:Sc_×Sc_×PUnit) i5=>?_|refine lfY ?_|refine Ab (λ_=>?_) λ_=>?_|refine Af ?_ λ_=>?_|refine Aa ?_ λ_=>?_)|exact trivial
 all_goals obtain⟨q1,q2⟩:=(show okTr l from hp)
 all_goals
  have hc:=KQ q1 q2;try simp only[Hg] at *
  try simp only[BY,CU,Co,AM,fCopyLoader,Gl,fInRange,fKeepAnswer,IS,Bx,A5,Dl,std,Nat.reduceAdd] at *
 all_goals first|trivial|omega|exact hc|exact hc.2.2.2.1|(rw[Abs (.inl o_)];exact⟨rfl,rfl⟩)|(rw[Abs (.inr ‹_›)];exact⟨rfl,rfl⟩)|(rw[DO];exact AdZ q1 b)|skip
 all_goals (obtain⟨a3,e1⟩:=i5)
 all_goals
  have hf:=O6 a3.1;have hd:=EA y5.1.conns 0 o_
 all_goals first|trivial|omega|exact hf.2.1.1|exact hf.2.2.1|exact hf.1.2|(rw[Adv o_ ‹_›];exact⟨QG a3 o_,rfl⟩)|skip
 all_goals
  have hcs:=hf.2.1.2 _ (Ba (show(firstDone y5.1.conns 0).toNat<y5.1.conns.length from o_));have hs1:(y5.1.conns.getD (firstDone y5.1.conns 0).toNat default).bd.body.size+(y5.1.conns.getD (firstDone y5.1.conns 0).toNat default).bd.bj.size<=1048576:=hcs.1;have hn:=Fp y5.1.page;have hh:y5.1.page.addr.host.size<=4000000:=by have:=(Dm (Ei hf.1.1)).2.1;simp only[szAddr] at this;omega
  have hz:=hf.2.2.2;have hw:=hf.1.2
 all_goals first|exact⟨o_,λ_=>trivial⟩|exact⟨hf.1.1,o_,o_,o_⟩|(rw[L2];exact⟨o_,o_,o_,o_,o_⟩)|skip
 all_goals
  have hx:=ZJ a3 o_;have hl:=IL (show 0<=firstDone y5.1.conns 0 from o_) (show firstDone y5.1.conns 0<y5.1.conns.length from o_);try rw[L2]
 all_goals refine⟨⟨?_,e1⟩,o_⟩
 all_goals first|(rw[AiR ‹_› ‹_›] at hx;exact hx)|(rw[AiL ‹_› ‹_›] at hx;exact hx)|(rw[Aja ‹_› ‹_›] at hx;exact hx)|(rw[AiC ‹_› ‹_›] at hx;exact hx))
theorem Ad5:∀ l:List Sj_,wCs l<=szL Bl l
 | []=>Qa8 _
 | c::l=>by
  have:=Ad5 l;rw[Aw];unfold wCs at *
  simp only[Qd0,List.sum_cons,wB,Bl,Ae] at *
  omega
theorem AhX {l:Sc_} {k:Int} (h0:0<=k) (hk:k<l.conns.length):szL Bl (finish1 l k).conns+szL Bj (finish1 l k).guesses<=szL Bl l.conns+szL Bj l.guesses:=by
 have c1:=AcZ h0 hk;have hg:=AgR l.guesses (l.conns.getD k.toNat default).to (l.conns.getD k.toNat default).bd;rw[QO];simp only[Bl] at c1;unfold finish1 finishC;split
 ·split<;>(dsimp only;omega)
 ·split<;>(dsimp only;omega)
theorem Xj:∀ (n:Nat) (l:Sc_),okT l->okT (xfer n l)/\(xfer n l).parts=l.parts/\szL Bl (xfer n l).conns+szL Bj (xfer n l).guesses<=szL Bl l.conns+szL Bj l.guesses
 | 0,l,h=>⟨h,rfl,Qa8 _⟩
 | n+1,l,h=>by
  rw[xfer];split
  ·exact⟨h,rfl,Qa8 _⟩
  ·have hd:=EA l.conns 0 o_;obtain⟨a1,a2,a3⟩:=Xj n _ (Tm h (show 0<=firstDone l.conns 0 from o_) o_);have a4:=AhX (l:=l) (show 0<=firstDone l.conns 0 from o_) o_;exact⟨a1,a2.trans (ZR _ _),o_⟩
theorem XO {l:Sc_} (h:AD l<=1048576):okTr l:=by
 have c1:=Ac Bl l.conns;have c2:=Ac Bj l.guesses;have c3:=Ac Ad l.parts;have c4:=Ad5 l.conns;simp only[AD] at h;have hi:okAll l.page 2000000 1100000000 10000000:=OS o_;refine⟨⟨⟨_,_,_,hi,o_,o_,o_⟩,⟨λc hc=>?_,o_,o_⟩,o_,by simp only[szNet] at h;omega⟩,o_⟩;have:=Ep Bl hc;simp only[Bl] at this;omega
theorem Adx (l:Sc_) (b:Int) (h:AD l<=1048576):okTr l/\AD (transfer l b).1<=1125899906842624:=by
 have hr:=XO h;refine⟨hr,?_⟩;unfold transfer;split
 ·exact Qd7 h o_
 ·obtain⟨a1,a2,a3⟩:=Xj l.conns.length (moved l b) (Tv hr.1 b);have hf:=O6 a1;have hz:=(Dm (Ei hf.1.1)).1;have hn:=hf.2.2.2.1;have e2:szL Bl (moved l b).conns=szL Bl l.conns:=AfV l.conns b;have e3:szL Bj (moved l b).guesses=szL Bj l.guesses:=rfl;have e4:(moved l b).parts=l.parts:=rfl;rw[e2,e3] at a3;rw[e4] at a2;simp only[AD] at *
  rw[a2];omega
def lLoaderInt:Fct:=Aih [.el .loader,.el .int]
def actOf (l:Sc_) (n:Int):Sc_×Bool:=if n=0 then arrivePart l else if n=1 then requestNext l else if n=2 then guessNext l else if n=3 then transfer l 20 else transfer l 200
def okAct (l:Sc_):Prop:=okArr l/\okRN l/\okGN l/\okTr l
def Rj:Fct:=⟨[.v (.el .loader),.v (.el .int)],[.el .loader,.el .bool],λ(x_:Sc_×Int×Unit)=>okAct x_.1,λ(x_:Sc_×Int×Unit)=>((actOf x_.1 x_.2.1).1,(actOf x_.1 x_.2.1).2,())⟩
theorem q25 (l:Sc_) (n:Int) (hp:Rj.pre (l,n,())):Out.holds (Rj.ctr (l,n,())).post (.br (n==0) (.cl Ct (l,()) λz2=>.lf Rj (z2.1,z2.2.1,())) (.br (n==1) (.cl BO (l,()) λz3=>.lf Rj (z3.1,z3.2.1,())) (.br (n==2) (.cl CF (l,()) λz4=>.lf Rj (z4.1,z4.2.1,())) (.br (n==3) (.cl Dl (l,(20:Int),()) λz5=>.lf Rj (z5.1,z5.2.1,())) (.cl Dl (l,(200:Int),()) λz6=>.lf Rj (z6.1,z6.2.1,())))))):=by
 repeat' (guard_target =~ Out.holds _ _;first|refine lfY ?_|refine Ab (λ_=>?_) λ_=>?_|refine Af ?_ λ_=>?_)
 all_goals obtain⟨w1,w2,w4,w3⟩:=(show okAct l from hp)
 all_goals try simp only[Rj,Ct,CF,BO,Dl,std,Nat.reduceAdd] at *
 all_goals first|trivial|omega|exact w1|exact w2|exact w3|exact w4|skip
 all_goals unfold actOf
 all_goals repeat first|(rw[Qa2 o_];exact⟨rfl,rfl⟩)|rw[Qa4 o_]
 all_goals first|exact⟨rfl,rfl⟩|skip
def Ao6:=Alb.a Rj<|Fct.o (KP [1,2,4,5,6] [7,13,19,25]) Alb.2 func78 (by
 rintro⟨(l:Sc_),(n:Int),_⟩ hp;exact ho _ (q25 l n hp))
def Amg:=Ao6.a Rj<|Fct.o (KP [1,2,4,5,6] [7,13,19,25]) Ao6.2 func84 (by
 rintro⟨(l:Sc_),(n:Int),_⟩ hp;exact ho _ (q25 l n hp))
def stepR (l:Sc_) (c:Int):Nat->Sc_×Bool
 | 0=>(l,false)
 | n+1=>if(actOf l ((max 0 c % 5+(4-(n:Int))) % 5)).2=true then(actOf l ((max 0 c % 5+(4-(n:Int))) % 5)) else stepR l c n
def stepLoad (l:Sc_) (c:Int):Sc_×Bool:=stepR l c 5
theorem tm5 {a:Int} (h:0<=a):Int.tmod a 5=a % 5:=Int.tmod_eq_emod_of_nonneg h
theorem Aii {l:Sc_} {c i:Int} (h0:0<=i) (h5:i<5):stepR l c (5-i.toNat)=if(actOf l ((IntKind.i64.wrap (Int.tmod (max 0 c) 5+i)).tmod 5)).2=true then actOf l ((IntKind.i64.wrap (Int.tmod (max 0 c) 5+i)).tmod 5) else stepR l c (5-(i.toNat+1)):=by
 have e:(IntKind.i64.wrap (Int.tmod (max 0 c) 5+i)).tmod 5=(max 0 c % 5+(4-((5-(i.toNat+1):Nat):Int))) % 5:=by rw[tm5 (show 0<=max 0 c from o_),Ag o_,tm5 o_,show(4-((5-(i.toNat+1):Nat):Int))=i from o_]
 rw[e,show 5-i.toNat=(5-(i.toNat+1))+1 from o_];rw[stepR]
theorem AhV {l:Sc_} {c i:Int} (h:5<=i):stepR l c (5-i.toNat)=(l,false):=by rw[show 5-i.toNat=0 from o_];rfl
def DZ:Fct:=⟨[.v (.el .loader),.v (.el .int)],[.el .loader,.el .bool],λ(x_:Sc_×Int×Unit)=>okAct x_.1,λ(x_:Sc_×Int×Unit)=>((stepLoad x_.1 x_.2.1).1,(stepLoad x_.1 x_.2.1).2,())⟩
abbrev Dc (l:Sc_) (c:Int):LInv:=⟨[⟨.s,7,true,.el .int⟩,⟨.b,2,false,.el .loader⟩,⟨.b,4,true,.el .loader⟩],λ(z_ x_:Int×Sc_×Sc_×Unit)=>((0<=x_.1/\x_.1<=5/\stepR l c (5-x_.1.toNat)=stepLoad l c)/\x_.2.1=z_.2.1)/\x_.2.2.1=z_.2.2.1,λ(x_:Int×Sc_×Sc_×Unit)=>5-x_.1.toNat⟩
def AnK:=Amg.a DZ<|Fct.p (KP [1,2,4,5,6,7,8,9] [14,26]) (λ⟨l,c,_⟩=>lv [(3,Dc l c)]) Amg.2 func23 (by
 rintro⟨(l:Sc_),(c:Int),_⟩ hp;refine ho (.cl AaA ((0:Int),c,()) λ(z2:Int×PUnit)=>.ob ((5:Int)≠(0:Int))<|lpx (Dc l c) ((0:Int),(l,(default,()))) λ(y2:Int×Sc_×Sc_×PUnit) bk2=>.br (decide (y2.1<5)) (.ob ((5:Int)≠(0:Int))<|.cl Rj (y2.2.1,(wr (z2.1.tmod (5:Int)+y2.1)).tmod (5:Int),()) λz3=>.br (z3.2.1) (.lf DZ (z3.1,true,())) (.ob (Value.int IntKind.i64 c=Value.int IntKind.i64 c)<|.ob (Value.int IntKind.i64 (z2.1.tmod (5:Int))=Value.int IntKind.i64 (z2.1.tmod (5:Int)))<|.ob (bk2 (w1 y2.1,(y2.2.1,(y2.2.2.1,()))))<|.ok)) (.cl fCopyLoader (y2.2.1,()) λz4=>.lf DZ (z4.1,false,()))) ?_;refine Af trivial λ_=>(Aa ?_ λ_=>An ?_ λ(y2:Int×Sc_×Sc_×PUnit) i2=>Ab (λh3=>Aa ?_ λ_=>Af ?_ λ_=>(Ab (λh6=>lfY ?_) (λh6=>Aa rfl λ_=>Aa rfl λ_=>Aa ?_ λ_=>trivial))) (λh3=>Af ?_ λ_=>(lfY ?_)))
 all_goals
  have hq:=(show okAct l from hp);have hw:=hq.2.2.2;try simp only[Dc,Rj,fCopyLoader,AaA,DZ,std,Nat.reduceAdd] at *
 all_goals first|trivial|omega|exact⟨o_,o_,rfl⟩|skip
 all_goals (obtain⟨⟨⟨a1,a2,a3⟩,e1⟩,e2⟩:=i2;simp only[e1] at *)
 all_goals first|trivial|omega|exact hq|exact KQ hw.1 hw.2|skip
 all_goals first|(rw[AhV o_] at a3;rw[<-a3];exact⟨rfl,rfl⟩)|rw[Aii a1 o_] at a3
 all_goals first|(rw[Qa2 ‹_›] at a3;rw[<-a3];exact⟨rfl,Eq.symm ‹_›⟩)|(rw[Qa4 (λq=>tf q ‹_›)] at a3;rw[Ag o_,show(y2.1+1).toNat=y2.1.toNat+1 from o_];exact⟨⟨⟨⟨o_,o_,a3⟩,by trivial⟩,e2⟩,o_⟩))
abbrev C8 (l:Sc_) (c:Int):LInv:=⟨[⟨.s,6,true,.el .int⟩,⟨.b,2,false,.el .loader⟩,⟨.b,4,true,.el .loader⟩],λ(z_ x_:Int×Sc_×Sc_×Unit)=>((0<=x_.1/\x_.1<=5/\stepR l c (5-x_.1.toNat)=stepLoad l c)/\x_.2.1=z_.2.1)/\x_.2.2.1=z_.2.2.1,λ(x_:Int×Sc_×Sc_×Unit)=>5-x_.1.toNat⟩
def Akb:=AnK.a DZ<|Fct.p (KP [1,2,4,5,6,7,8] [10,24]) (λ⟨l,c,_⟩=>lv [(2,C8 l c)]) AnK.2 func25 (by
 rintro⟨(l:Sc_),(c:Int),_⟩ hp;refine ho (lpx (C8 l c) ((0:Int),(l,(default,()))) λ(y1:Int×Sc_×Sc_×PUnit) bk1=>.br (decide (y1.1<5)) (.ob ((5:Int)≠(0:Int))<|.ob ((5:Int)≠(0:Int))<|.cl Rj (y1.2.1,(wr ((if c>0 then c else(0:Int)).tmod (5:Int)+y1.1)).tmod (5:Int),()) λz2=>.br (z2.2.1) (.lf DZ (z2.1,true,())) (.ob (Value.int IntKind.i64 c=Value.int IntKind.i64 c)<|.ob (bk1 (w1 y1.1,(y1.2.1,(y1.2.2.1,()))))<|.ok)) (.cl fCopyLoader (y1.2.1,()) λz3=>.lf DZ (z3.1,false,()))) ?_;refine An ?_ λ(y1:Int×Sc_×Sc_×PUnit) i1=>Ab (λh2=>Aa ?_ λ_=>Aa ?_ λ_=>Af ?_ λ_=>(Ab (λh6=>lfY ?_) (λh6=>Aa rfl λ_=>Aa ?_ λ_=>trivial))) (λh2=>Af ?_ λ_=>(lfY ?_))
 all_goals
  have hq:=(show okAct l from hp);have hw:=hq.2.2.2;try simp only[C8,Rj,fCopyLoader,DZ,std,Nat.reduceAdd] at *
  try simp only[show(if c>0 then c else 0)=max 0 c from by split<;>omega] at *
 all_goals first|trivial|omega|exact⟨o_,o_,rfl⟩|skip
 all_goals (obtain⟨⟨⟨a1,a2,a3⟩,e1⟩,e2⟩:=i1;simp only[e1] at *)
 all_goals first|trivial|omega|exact hq|exact KQ hw.1 hw.2|skip
 all_goals first|(rw[AhV o_] at a3;rw[<-a3];exact⟨rfl,rfl⟩)|rw[Aii a1 o_] at a3
 all_goals first|(rw[Qa2 ‹_›] at a3;rw[<-a3];exact⟨rfl,Eq.symm ‹_›⟩)|(rw[Qa4 (λq=>tf q ‹_›)] at a3;rw[Ag o_,show(y1.1+1).toNat=y1.1.toNat+1 from o_];exact⟨⟨⟨⟨o_,o_,a3⟩,by trivial⟩,e2⟩,o_⟩))
def okSL (l:Sc_):Prop:=AD l<=1048576/\-9223372036854775808<=l.page.block/\l.page.block<=9223372036854775807
theorem AaK {l:Sc_} (h:okSL l):okAct l:=⟨(Xl l h.1).1,Yc h.1 h.2.1 h.2.2,Aec h.1,XO h.1⟩
theorem Ah4 {l:Sc_} (h:okSL l) (n:Int):AD (actOf l n).1<=1125899906842624:=by
 obtain⟨h1,h2,h3⟩:=h;unfold actOf;split
 ·exact(Xl l h1).2
 ·split
  ·exact(Ah2 l h2 h3 h1).2
  ·split
   ·have:=PZ l;omega
   ·split
    ·exact(Adx l 20 h1).2
    ·exact(Adx l 200 h1).2
theorem Z1 {l:Sc_} (h:okSL l) (c:Int):∀ n,AD (stepR l c n).1<=1125899906842624
 | 0=>Qd7 h.1 o_
 | n+1=>by
  rw[stepR];split
  ·exact Ah4 h _
  ·exact Z1 h c n
theorem AhO (l:Sc_) (c:Int) (b1 : -9223372036854775808<=l.page.block) (b2:l.page.block<=9223372036854775807) (h:AD l<=1048576):okAct l/\AD (stepLoad l c).1<=1125899906842624:=⟨AaK ⟨h,b1,b2⟩,Z1 ⟨h,b1,b2⟩ c 5⟩
theorem k4_445:lLoaderInt.ok Tryz.prog 4:=Fct.o (KP [1,2,4,5,6,7,8,9,10,11,12,13,14,15] [20,44,49,65,73,76,92,97,100]) Akb.2 func4 (by
 rintro⟨(l:Sc_),(c:Int),_⟩ hp;refine ho (let q2_:Out:=.leaf (mkR lLoaderInt.rs (true,())) [] [];let q0_:Out:=.leaf (mkR lLoaderInt.rs (false,())) [] [];.cl Lr (l,(1048576:Int),()) λ(z2:Int×PUnit)=>.br (decide (z2.1<0)) q2_ (.cl Gf (l,()) λz3=>.cl DZ (z3.1,c,()) λz4=>.cl Gf (l,()) λz5=>.cl DZ (z5.1,c,()) λz6=>.cl GA (z6.1,z4.1,()) λz7=>.br (!z7.1) q0_ (.br (!z6.2.1==z4.2.1) q0_ (.cl Gf (l,()) λz8=>.cl GA (z5.1,z8.1,()) λz9=>.br (!z9.1) q0_ (.ob (EP.pre z5.1 (1:Int))<|.lt _ (EP.fn z5.1 (1:Int)) λz10=>.br (decide (z10.2<0)) q0_ (.cl GA (z6.1,z4.1,()) λz11=>.br (!z11.1) q0_ (.br (!z6.2.1==z4.2.1) q0_ (.ob (EP.pre z6.1 (1:Int))<|.lt _ (EP.fn z6.1 (1:Int)) λz12=>let q1_:=({z12.1 with net:=({z12.1.net with now:=z6.1.net.now}:Su_),page:=({z6.1.page with bj:=({z12.1.page.bj with set_:=z6.1.page.bj.set_,nonce:=z6.1.page.bj.nonce}:Si_),bn:=z12.1.page.bn,ba:=z12.1.page.ba,bf:=z12.1.page.bf,bh:=z12.1.page.bh,bg:=z12.1.page.bg,ran:=z12.1.page.ran,log:=z12.1.page.log}:Sa_)}:Sc_);.cl GI (q1_,(1:Int),()) λ(z13:Int×PUnit)=>.br (decide (z13.1<0)) q0_ (.br (z13.1 != z12.2) q0_ (.cl Gf (l,()) λz14=>.cl DZ (z14.1,c,()) λz15=>.cl GA (z15.1,z4.1,()) λz16=>.br (!z16.1) q0_ (.br (!z15.2.1==z4.2.1) q0_ (.cl GI (q1_,(1:Int),()) λ(z17:Int×PUnit)=>.br (decide (z17.1<0)) q0_ (.br (z17.1 != z12.2) q0_ q2_))))))))))))) ?_;refine Fi ?_ λo1 z2 ez2=>(Ab (λh2=>Fct.leafY ?_) (λh2=>Fi ?_ λo3 z3 ez3=>(Fi ?_ λo4 z4 ez4=>(Fi ?_ λo5 z5 ez5=>(Fi ?_ λo6 z6 ez6=>(Fi ?_ λo7 z7 ez7=>(Ab (λh8=>Fct.leafY ?_) (λh8=>Ab (λh9=>Fct.leafY ?_) (λh9=>Fi ?_ λo10 z8 ez8=>(Fi ?_ λo11 z9 ez9=>(Ab (λh12=>Fct.leafY ?_) (λh12=>Aa ?_ λ_=>AlY λz10 ez10=>(Ab (λh14=>Fct.leafY ?_) (λh14=>Fi ?_ λo15 z11 ez11=>(Ab (λh16=>Fct.leafY ?_) (λh16=>Ab (λh17=>Fct.leafY ?_) (λh17=>Aa ?_ λ_=>AlY λz12 ez12=>(Fi ?_ λo19 z13 ez13=>(Ab (λh20=>Fct.leafY ?_) (λh20=>Ab (λh21=>Fct.leafY ?_) (λh21=>Fi ?_ λo22 z14 ez14=>(Fi ?_ λo23 z15 ez15=>(Fi ?_ λo24 z16 ez16=>(Ab (λh25=>Fct.leafY ?_) (λh25=>Ab (λh26=>Fct.leafY ?_) (λh26=>Fi ?_ λo27 z17 ez17=>(Ab (λh28=>Fct.leafY ?_) (λh28=>Ab (λh29=>Fct.leafY ?_) (λh29=>Fct.leafY ?_)))))))))))))))))))))))))))))
 all_goals
  have hlw:=λa b=>AhO l c a b
  have hg0:Sh.good (.el .loader) l:=hp.1;have hg1:Sh.good (.el .int) c:=hp.2.1;have hI0:=Ajc (l.page.block) hg0 (by simp[enc]);clear hp;try have hbd0:=MP z5.fst (1:Int)
  try have hbd1:=MP z6.fst (1:Int)
 all_goals subst_vars
 all_goals
  try simp only[Hg] at *
  try simp only[DZ,GA,GI,EP,Lr,Gf,lLoaderInt,std,Nat.reduceAdd,szF,toF,eqF,mkF,heF,decide_true] at *
  try simp only[SQ] at *
 all_goals first|trivial|omega|grind[lessen])
def Aps:=Akb.a lLoaderInt k4_445
section
open Go.ChangeShapes Go.WideShapes Go.ChangeAt Go.RowKit
theorem rfB:(Tryz.f4.params.toList.all λt=>Tryz.prog.readableRec t&&decide (t<Tryz.prog.types.size))=true:=by kernel_rfl
theorem rfC:MY Tryz.prog tyOf Tryz.f4.params.toList [.el .loader,.el .int]=true:=by kernel_rfl
theorem rfD:Aou Tryz.prog tyOf [3,4,5,9,25,28,30,37,40,41,44,46,50,55,68,69,73,78,82,87,144,148,150,158,162,170,174,177,191,193,196,208,211,221,234,243,246,248,252,256,259,268,298,319,366,451,458,482]=true:=by kernel_rfl
theorem rowFacts:Af0 Tryz.prog Tryz.f4 tyOf [3,4,5,9,25,28,30,37,40,41,44,46,50,55,68,69,73,78,82,87,144,148,150,158,162,170,174,177,191,193,196,208,211,221,234,243,246,248,252,256,259,268,298,319,366,451,458,482] [.el .loader,.el .int]=true:=by unfold Af0;rw[rfA,rfB,rfC,rfD];rfl
end
end Go.Proofs.YtmeicddakaciiaaGreatDoor.fnExactStepLoad
