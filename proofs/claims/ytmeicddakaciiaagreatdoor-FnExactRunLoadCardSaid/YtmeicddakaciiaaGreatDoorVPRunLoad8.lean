/- Contracts, part 8. -/
import Derived.Test.YtmeicddakaciiaaGreatDoorVPRunLoad4
import Derived.Test.YtmeicddakaciiaaGreatDoorVPRunLoad7
namespace Go.Proofs.YtmeicddakaciiaaGreatDoor.fnExactRunLoad
open Go.Proofs.YtmeicddakaciiaaGreatDoor
open Go.D Go.Proofs.Tryz
set_option maxRecDepth 100000
set_option maxHeartbeats 2000000
set_option linter.defProp false
set_option linter.unusedVariables false
set_option linter.unusedSimpArgs false
def Aml:=AkY.a Wt<|Fct.p (KP [0,2,3,4] [9]) (λ⟨l,_⟩=>lv [(3,D3 l)]) AkY.2 func198 (by
 rintro⟨(l:List Sj_),_⟩ hp;refine ho (lpx (D3 l) ([],((0:Int),())) λ(y1:List Sb_×Int×PUnit) bk1=>.br (decide (y1.2.1<(l.length:Int))) (.ob (inB y1.2.1 l.length)<|.ob (True)<|.ob (Bx (y1.1.length+[(l.getD y1.2.1.toNat default).to].length) 32)<|.ob (l=l)<|.ob (bk1 (y1.1++[(l.getD y1.2.1.toNat default).to],(w1 y1.2.1,())))<|.ok) (.lf Wt (y1.1,()))) ?_;refine Aj ?_ λ(y1:List Sb_×Int×PUnit) i1=>Ab (λh2=>Aa ?_ λ_=>Aa trivial λ_=>Aa ?_ λ_=>Aa rfl λ_=>Aa ?_ λ_=>trivial) (λh2=>lfY ?_)
 all_goals try simp only[D3,Wt,std,Nat.reduceAdd,busyOf] at *
 all_goals first|trivial|omega|skip
 all_goals (obtain⟨a1,a2,a3,a4⟩:=i1)
 all_goals first|(rw[Kl (λc:Sj_=>c.to) (l:=l) (i:=y1.2.1.toNat) o_,Qd5] at a4;exact a4)|(rw[Of (λc:Sj_=>c.to) (l:=l) (i:=y1.2.1.toNat) o_] at a4;rw[Ag o_,show(y1.2.1+1).toNat=y1.2.1.toNat+1 from o_];exact⟨⟨o_,o_,by simp only[Qa3,Qa6,Qb7];omega,by rw[Qb4];exact a4⟩,o_⟩))
def reqNeeds (l:Sc_):List Sf_:=withoutAddrs (busyOf l.conns) (nextNeeds l.page)
def reqPick (l:Sc_):Int:=pickReq l.page (reqNeeds l) 0 (-1) 0
def reqTo (l:Sc_):Sb_:=((reqNeeds l).getD (reqPick l).toNat default).to
def requestNext (l:Sc_):Sc_×Bool :=
 if reqPick l<0 then(l,false)
 else if(useGuess l.guesses (reqTo l)).2.2=true then
  ({ l with guesses:=(useGuess l.guesses (reqTo l)).1,net:=keepAnswer l.net l.page.addr.host (reqTo l) (useGuess l.guesses (reqTo l)).2.1,page:=takeAnswer l.page (reqTo l) (useGuess l.guesses (reqTo l)).2.1 },true)
 else if 3<=l.conns.length then(l,false)
 else({ l with net:=(fetchNow l.net l.page.addr.host (reqTo l) false).1,conns:=(openConn l.conns (reqTo l) (fetchNow l.net l.page.addr.host (reqTo l) false).2 false).1 },true)
def okGs (l:List Sl_):Prop:=∀ g,g∈l->Ae g.bd<=1048576
def okCs (l:List Sj_):Prop:=∀ c,c∈l->Ae c.bd<=1048576/\szAddr c.to<=4000000
def okTo (p:Sa_):Prop:=(∀ s,s∈p.bf->szAddr s.to<=4000000)/\∀ m,m∈p.bh->szAddr m.to<=4000000
def okRN (l:Sc_):Prop:=((okFM l.page/\okTo l.page/\l.parts.length<=1000000000)/\-9223372036854775808<=l.page.block/\l.page.block<=9223372036854775807/\l.page.bf.length+l.page.bh.length<=1000000000000)/\(l.conns.length<=1048576/\okCs l.conns)/\(l.guesses.length<=4194304/\okGs l.guesses)/\okNt l.net
def Fv (p:Sa_):(nextNeeds p).length<=p.bf.length+p.bh.length:=by
 have h1:(openSlots p).length<=p.bf.length:=DZ _ _ _;have h2:(openMods p).length<=p.bh.length:=DZ _ _ _;unfold nextNeeds;rw[Qa3,Qe9,Qe9];omega
def Pr {d:List Sb_} {r:Sf_}:∀ {l:List Sf_},r∈withoutAddrs d l->r∈l
 | [],h=>h
 | x::l,h=>by
  rw[withoutAddrs] at h;split at h
  ·exact Qc7 _ (Pr h)
  ·rcases Qe5.1 h with q|q
   ·rw[q];exact Qe8
   ·exact Qc7 _ (Pr q)
def AbD {p:Sa_} {r:Sf_} (h:r∈nextNeeds p):(∃ s,s∈p.bf/\r.to=s.to)\/∃ m,m∈p.bh/\r.to=m.to:=by
 unfold nextNeeds at h;rcases Qb8.1 h with q|q
 ·obtain⟨k,hk,rfl⟩:=Qg7.1 q;have:=FD (λs:Sp_=>!s.done) p.bf 0 k hk;left;refine⟨p.bf.getD k.toNat default,A8 o_,?_⟩;unfold slotRequest;rw[Qa1 o_]
 ·obtain⟨k,hk,rfl⟩:=Qg7.1 q;have:=FD (λm:Sg_=>!m.done) p.bh 0 k hk;right;refine⟨p.bh.getD k.toNat default,A8 o_,?_⟩;rw[MW o_ o_]
def Kd (p:Sa_):∀ (l:List Sf_) (i b c:Int),-1<=b->b<i->-1<=pickReq p l i b c/\pickReq p l i b c<i+l.length
 | [],i,b,c,h1,h2=>by
  rw[pickReq];simp only[Qb7];omega
 | r::l,i,b,c,h1,h2=>by
  rw[pickReq,Qa6];split
  ·have:=Kd p l (i+1) i (classOf p r) o_ o_;omega
  ·have:=Kd p l (i+1) b c h1 o_;omega
def rn1 (l:Sc_):withoutAddrs (busyOf l.conns) (nextNeeds l.page)=reqNeeds l:=rfl
def rn2 (l:Sc_):pickReq l.page (reqNeeds l) 0 (-1) 0=reqPick l:=rfl
def rn3 (l:Sc_):((reqNeeds l).getD (reqPick l).toNat default).to=reqTo l:=rfl
def Ahb (l:Sc_) : -1<=reqPick l/\reqPick l<(reqNeeds l).length:=by
 have:=Kd l.page (reqNeeds l) 0 (-1) 0 o_ o_;unfold reqPick;omega
def Aby {l:Sc_} (h:okTo l.page) (h0:0<=reqPick l):szAddr (reqTo l)<=4000000:=by
 have hi:=(Ahb l).2;have hm:(reqNeeds l).getD (reqPick l).toNat default∈nextNeeds l.page:=Pr (A8 (show(reqPick l).toNat<(reqNeeds l).length from o_));unfold reqTo;rcases AbD hm with⟨s,hs,e⟩|⟨m,hm2,e⟩
 ·rw[e];exact h.1 s hs
 ·rw[e];exact h.2 m hm2
def AaU {l:List Sl_} {a:Sb_} (h:okGs l):Ae (useGuess l a).2.1<=1048576:=by
 unfold useGuess;split
 ·exact(show Ae notFound<=1048576 by decide)
 ·rename_i hc;have hf:=EW (λg:Sl_=>decide (g.to=a)) l 0 o_;have:(findGuess l a).toNat<l.length:=by unfold findGuess at *;omega
  exact h _ (A8 this)
def Ag8 {l:List Sj_} {i:Nat} (h:i<l.length):busyOf (l.drop i)=(l.getD i default).to::busyOf (l.drop (i+1)):=Of (λc:Sj_=>c.to) h
def AcK {l:List Sj_} {i:Nat} (h:l.length<=i):busyOf (l.drop i)=[]:=Kl (λc:Sj_=>c.to) h
def BL:Fct:=⟨[.v (.el .loader)],[.el .loader,.el .bool],λ(x_:Sc_×Unit)=>okRN x_.1,λ(x_:Sc_×Unit)=>((requestNext x_.1).1,(requestNext x_.1).2,())⟩
def AnO:=Aml.a BL<|Fct.o (KP [1,2,3,4,5,6,7,8,9,10,11,12,13] [28,47,67]) Aml.2 func133 (by
 rintro⟨(l:Sc_),_⟩ hp;refine ho (.cl fCopyLoader (l,()) λz2=>let q1_:Out:=.lf BL (z2.1,false,());.cl Bw (l.page,()) λz3=>.cl Wt (l.conns,()) λz4=>.cl BH (z3.1,z4.1,()) λz5=>.cl B8 (l.page,z5.1,()) λ(z6:Int×PUnit)=>let q0_:=z5.1.getD z6.1.toNat default;.br (decide (z6.1<0)) q1_ (.ob (inB z6.1 z5.1.length)<|.ob (z6.1.toNat<z5.1.length)<|.cl Dm (l.guesses,q0_.to,()) λz7=>.br (z7.2.2.1) (.cl fKeepAnswer (l.net,l.page.addr.host,q0_.to,z7.2.1,()) λz8=>.cl A5 (l.page,q0_.to,z7.2.1,()) λz9=>.lf BL (⟨z8.1,z9.1,z2.1.parts,z2.1.conns,z7.1⟩,true,())) (.br (decide ((l.conns.length:Int)>=3)) q1_ (.cl fFetchNow (l.net,l.page.addr.host,q0_.to,false,()) λz10=>.cl fOpen (l.conns,q0_.to,z10.2.1,false,()) λz11=>.lf BL ({z2.1 with net:=z10.1,conns:=z11.1},true,()))))) ?_;repeat' (guard_target =~ Out.holds _ _;first|refine lfY ?_|refine Ab (λ_=>?_) λ_=>?_|refine Af ?_ λ_=>?_|refine Aa ?_ λ_=>?_)
 all_goals obtain⟨⟨⟨q1,qt,qp⟩,q2,q3,q4⟩,⟨q5,q6⟩,⟨q7,q8⟩,q9⟩:=(show okRN l from hp)
 all_goals
  have hok:=Dq (En q1);have hh:l.page.addr.host.size<=4000000:=by have:=hok.2.1;simp only[szAddr] at this;omega
  have hn:=Fv l.page;have hb:(busyOf l.conns).length=l.conns.length:=Qe9 ..;have hw:=Hl (busyOf l.conns) (nextNeeds l.page);have hk:=Ahb l;have ht:=λh=>Aby (l:=l) qt h
  have hu:=AaU (a:=reqTo l) q8;have hf:=Ez (t:=l.page.addr.host) (a:=reqTo l) (g:=false) q9
 all_goals obtain⟨n1,n2,n3,n4⟩:=q9
 all_goals
  try simp only[Hq] at *
  try simp only[Wt,fCopyLoader,fFetchNow,fKeepAnswer,Bw,fOpen,B8,BL,A5,Dm,BH,std,Nat.reduceAdd,rn1,rn2,rn3] at *
 all_goals first|trivial|omega|skip
 all_goals first|exact⟨o_,o_,o_,o_,o_⟩|exact⟨o_,o_⟩|exact⟨o_,⟨o_,o_⟩,o_⟩|skip
 all_goals
  have hs1:(useGuess l.guesses (reqTo l)).2.1.body.size+(useGuess l.guesses (reqTo l)).2.1.bj.size<=1048576:=hu;have hs2:(fetchNow l.net l.page.addr.host (reqTo l) false).2.body.size+(fetchNow l.net l.page.addr.host (reqTo l) false).2.bj.size<=1048576:=hf
 all_goals first|exact⟨q1,o_,o_,o_⟩|exact⟨o_,o_⟩|skip
 all_goals unfold requestNext
 all_goals first|(rw[Qa1 ‹_›];exact⟨rfl,rfl⟩)|(rw[Qa4 o_])
 all_goals first|(rw[Qa1 ‹_›];exact⟨rfl,rfl⟩)|(rw[Qa4 (by rw[show(useGuess l.guesses (reqTo l)).2.2=false from ‹_›];decide)])
 all_goals first|(rw[Qa1 o_];exact⟨rfl,rfl⟩)|(rw[Qa4 o_];exact⟨rfl,rfl⟩)|skip)
abbrev B5 (l:Sc_):LInv:=⟨[⟨.s,5,true,.sl .addr⟩,⟨.s,23,true,.el .int⟩,⟨.b,1,false,.el .loader⟩,⟨.b,2,true,.el .loader⟩,⟨.b,4,true,.el .loader⟩],λ(z_ x_:(List Sb_)×Int×Sc_×Sc_×Sc_×Unit)=>(((0<=x_.2.1/\x_.2.1<=l.conns.length/\x_.1.length<=x_.2.1/\x_.1++busyOf (l.conns.drop x_.2.1.toNat)=busyOf l.conns)/\x_.2.2.1=z_.2.2.1)/\x_.2.2.2.1=z_.2.2.2.1)/\x_.2.2.2.2.1=z_.2.2.2.2.1,λ(x_:(List Sb_)×Int×Sc_×Sc_×Sc_×Unit)=>l.conns.length-x_.2.1.toNat⟩
def Anb:=AnO.a BL<|Fct.p (KP [1,2,3,4,5,7,8,9,10,11,12,13,14,15,16,21,22,23] [24,43,62,82]) (λ⟨l,_⟩=>lv [(4,B5 l)]) AnO.2 func148 (by
 rintro⟨(l:Sc_),_⟩ hp;refine ho (let q1_:=(l.conns.length:Int);.cl fCopyLoader (l,()) λz2=>lpx (B5 l) ([],((0:Int),(l,(default,(z2.1,()))))) λ(y2:List Sb_×Int×Sc_×Sc_×Sc_×PUnit) bk2=>let q3_:=l.conns.getD y2.2.1.toNat default;let q2_:Out:=.lf BL (y2.2.2.2.2.1,false,());.br (decide (y2.2.1<q1_)) (.ob (inB y2.2.1 l.conns.length)<|.ob (True)<|.ob (Bx (y2.1.length+[q3_.to].length) 32)<|.ob (l.conns=l.conns)<|.ob (Value.int IntKind.i64 q1_=Value.int IntKind.i64 q1_)<|.ob (bk2 (y2.1++[q3_.to],(w1 y2.2.1,(y2.2.2.1,(y2.2.2.2.1,(y2.2.2.2.2.1,()))))))<|.ok) (.cl Bw (y2.2.2.1.page,()) λz3=>.cl BH (z3.1,y2.1,()) λz4=>.cl B8 (y2.2.2.1.page,z4.1,()) λ(z5:Int×PUnit)=>let q0_:=z4.1.getD z5.1.toNat default;.br (decide (z5.1<0)) q2_ (.ob (inB z5.1 z4.1.length)<|.ob (z5.1.toNat<z4.1.length)<|.cl Dm (y2.2.2.1.guesses,q0_.to,()) λz6=>.br (z6.2.2.1) (.cl fKeepAnswer (y2.2.2.2.2.1.net,y2.2.2.1.page.addr.host,q0_.to,z6.2.1,()) λz7=>.cl A5 (y2.2.2.2.2.1.page,q0_.to,z6.2.1,()) λz8=>.lf BL (⟨z7.1,z8.1,y2.2.2.2.2.1.parts,y2.2.2.2.2.1.conns,z6.1⟩,true,())) (.br (decide ((y2.2.2.1.conns.length:Int)>=3)) q2_ (.cl fFetchNow (y2.2.2.2.2.1.net,y2.2.2.1.page.addr.host,q0_.to,false,()) λz9=>.cl fOpen (y2.2.2.2.2.1.conns,q0_.to,z9.2.1,false,()) λz10=>.lf BL ({y2.2.2.2.2.1 with net:=z9.1,conns:=z10.1},true,())))))) ?_;refine Af ?_ λ_=>(Aj ?_ λ(y2:List Sb_×Int×Sc_×Sc_×Sc_×PUnit) i2=>Ab (λh3=>Aa ?_ λ_=>Aa trivial λ_=>Aa ?_ λ_=>Aa rfl λ_=>Aa rfl λ_=>Aa ?_ λ_=>trivial) (λh3=>Af ?_ λ_=>(Af ?_ λ_=>(Af ?_ λ_=>(Ab (λh10=>lfY ?_) (λh10=>Aa ?_ λ_=>Aa ?_ λ_=>Af ?_ λ_=>(Ab (λh14=>Af ?_ λ_=>(Af ?_ λ_=>(lfY ?_))) (λh14=>Ab (λh17=>lfY ?_) (λh17=>Af ?_ λ_=>(Af ?_ λ_=>(lfY ?_)))))))))))
 all_goals obtain⟨⟨⟨q1,qt,qp⟩,q2,q3,q4⟩,⟨q5,q6⟩,⟨q7,q8⟩,q9⟩:=(show okRN l from hp)
 all_goals
  have hok:=Dq (En q1);have hh:l.page.addr.host.size<=4000000:=by have:=hok.2.1;simp only[szAddr] at this;omega
  have hn:=Fv l.page;have hb:(busyOf l.conns).length=l.conns.length:=Qe9 ..;have hw:=Hl (busyOf l.conns) (nextNeeds l.page);have hk:=Ahb l;have ht:=λh=>Aby (l:=l) qt h
  have hu:=AaU (a:=reqTo l) q8;have hf:=Ez (t:=l.page.addr.host) (a:=reqTo l) (g:=false) q9
 all_goals obtain⟨n1,n2,n3,n4⟩:=q9
 all_goals
  try simp only[Hq] at *
  try simp only[B5,fCopyLoader,fFetchNow,fKeepAnswer,Bw,fOpen,B8,BL,A5,Dm,BH,std,Nat.reduceAdd,rn1,rn2,rn3] at *
 all_goals first|trivial|omega|skip
 all_goals (obtain⟨⟨⟨⟨a1,a2,a3,a4⟩,e1⟩,e2⟩,e3⟩:=i2;simp only[e1,e3] at *)
 all_goals first|trivial|omega|(rw[Ag8 (l:=l.conns) (i:=y2.2.1.toNat) o_] at a4;rw[Ag o_,show(y2.2.1+1).toNat=y2.2.1.toNat+1 from o_];exact⟨⟨⟨⟨⟨o_,o_,by simp only[Qa3,Qa6,Qb7];omega,by rw[Qb4];exact a4⟩,by trivial⟩,e2⟩,by trivial⟩,o_⟩)|(have he:y2.1=busyOf l.conns:=by rw[AcK (l:=l.conns) (i:=y2.2.1.toNat) o_,Qd5] at a4;exact a4)
 all_goals simp only[he,rn1,rn2,rn3] at *
 all_goals first|trivial|omega|skip
 all_goals first|exact⟨o_,o_,o_,o_,o_⟩|exact⟨o_,o_⟩|exact⟨o_,⟨o_,o_⟩,o_⟩|skip
 all_goals
  have hs1:(useGuess l.guesses (reqTo l)).2.1.body.size+(useGuess l.guesses (reqTo l)).2.1.bj.size<=1048576:=hu;have hs2:(fetchNow l.net l.page.addr.host (reqTo l) false).2.body.size+(fetchNow l.net l.page.addr.host (reqTo l) false).2.bj.size<=1048576:=hf
 all_goals first|exact⟨q1,o_,o_,o_⟩|exact⟨o_,o_⟩|skip
 all_goals unfold requestNext
 all_goals first|(rw[Qa1 ‹_›];exact⟨rfl,rfl⟩)|(rw[Qa4 o_])
 all_goals first|(rw[Qa1 ‹_›];exact⟨rfl,rfl⟩)|(rw[Qa4 (by rw[show(useGuess l.guesses (reqTo l)).2.2=false from ‹_›];decide)])
 all_goals first|(rw[Qa1 o_];exact⟨rfl,rfl⟩)|(rw[Qa4 o_];exact⟨rfl,rfl⟩)|skip)
def ZH (l:List Sj_) (a:Sb_) (x:Sd_) (g:Bool):szL Cc (openConn l a x g).1<=szL Cc l+(szAddr a+Ae x+1):=by
 unfold openConn;split
 ·simp only;omega
 ·simp only;rw[Fb];simp only[Cc];omega
def AhK {l:Sc_} (h:CX l<=1048576) (b1 : -9223372036854775808<=l.page.block) (b2:l.page.block<=9223372036854775807):okRN l:=by
 have c1:=Ac Cc l.conns;have c2:=Ac Bs l.guesses;have c3:=Ac Ad l.parts;have c4:=Ac AA l.page.bf;have c5:=Ac Am l.page.bh;simp only[CX] at h;have hi:okAll l.page 2000000 1100000000 10000000:=Yx o_;have hp:szL AA l.page.bf+szL Am l.page.bh<=szPage l.page:=by simp only[szPage];omega
 have hn:szL AY l.net.servers+szCache l.net.cache<=szNet l.net:=by simp only[szNet];omega
 have hc:szCache l.net.cache=szL AP l.net.cache.bg:=rfl;refine⟨⟨⟨⟨_,_,_,hi,o_,o_,o_⟩,⟨λs hs=>?_,λm hm=>?_⟩,o_⟩,b1,b2,o_⟩,⟨o_,λc hc=>?_⟩,⟨o_,λg hg=>?_⟩,o_,o_,o_,λe he=>?_⟩
 ·have:=Fl AA hs;simp only[AA] at this;omega
 ·have:=Fl Am hm;simp only[Am] at this;omega
 ·have:=Fl Cc hc;simp only[Cc] at this;omega
 ·have:=Fl Bs hg;simp only[Bs] at this;omega
 ·have:=Fl AP he;simp only[AP] at this;omega
def FX (p:Sa_) (m:Int) (to d:ByteArray) (n:Int):(addSlot p m to d n).1.addr=p.addr:=by unfold addSlot;split<;>rfl
def T2 (p:Sa_) (a:Sb_):(askModule p a).addr=p.addr:=by unfold askModule;split<;>rfl
def Pd (p:Sa_) (to:ByteArray):(addEntry p to).addr=p.addr:=by
 unfold addEntry;split
 ·exact T2 p _
 ·rfl
def Qo (p:Sa_) (t:Sh_) (n:Int):(element p t n).addr=p.addr:=by
 unfold element;split
 ·exact FX ..
 ·split
  ·exact FX ..
  ·rfl
def Tg (p:Sa_) (n:Int):(script p n).addr=p.addr:=by
 unfold script;split
 ·split<;>rfl
 ·split
  ·exact FX ..
  ·split
   ·exact Pd ..
   ·exact FX p ..
def UR (p:Sa_) (s:ByteArray):(say p s).addr=p.addr:=by unfold say;split<;>rfl
def HU (p:Sa_) (c:ByteArray) (w:Bool):(runCode p c w).addr=p.addr:=by unfold runCode;split<;>rfl
def Ni (p:Sa_):(takeToken p).1.addr=p.addr:=by
 unfold takeToken;split
 ·rfl
 ·show(takeTok p _).addr=_;unfold takeTok;split
  ·exact Qo _ _ _
  ·split
   ·exact Tg _ _
   ·rfl
def SY (p:Sa_):(stepParser p).1.addr=p.addr:=by
 unfold stepParser;split
 ·unfold stepInline;split
  ·exact HU _ _ _
  ·rfl
 ·split
  ·unfold stepBlock;split
   ·rfl
   ·split
    ·rfl
    ·split
     ·exact HU _ _ _
     ·rfl
  ·exact Ni p
def Jf (p:Sa_):∀ (l:List Sb_) (q:Sa_),(enterAll p q l).addr=q.addr
 | [],q=>rfl
 | b::l,q=>by have:=Jf p l (enter1 p q b);refine this.trans ?_;unfold enter1;split<;>rfl
def Vz (p:Sa_) (a:Sb_):(enter p a).addr=p.addr:=by
 unfold enter;split
 ·exact UR _ _
 ·exact Jf p _ p
def Z0 (p:Sa_):(stepTail p).1.addr=p.addr:=by
 unfold stepTail;split
 ·rfl
 ·split
  ·unfold tailDefer;split
   ·rfl
   ·split
    ·exact HU _ _ _
    ·rfl
  ·split
   ·unfold tailEnter;split
    ·rfl
    ·exact Vz _ _
   ·split
    ·rfl
    ·exact UR _ _
def Pu:∀ (n:Nat) (p:Sa_),(adv n p).addr=p.addr
 | 0,p=>rfl
 | n+1,p=>by
  rw[adv];split
  ·refine(Pu n _).trans ?_;unfold step1;split
   ·exact SY p
   ·exact Z0 p
  ·rfl
def QX:∀ (l:List Sb_) (p:Sa_),(l.foldl askModule p).addr=p.addr
 | [],p=>rfl
 | b::l,p=>(QX l (askModule p b)).trans (T2 p b)
def G9 (p:Sa_) (a:Sb_) (x:Sd_):(takeAnswer p a x).addr=p.addr:=by
 refine(Pu 2000 _).trans ?_;unfold fillModule;split
 ·rfl
 ·exact QX _ _
def ZL:Fct:=⟨[.v (.el .request),.p (.el .conn)],[.el .bool],λ(x_:Sf_×Sj_×Unit)=>True,λ(x_:Sf_×Sj_×Unit)=>(decide (x_.1.to=x_.2.1.to),())⟩
def Am5:=Anb.a ZL<|Fct.o [1,2,3] Anb.2 func240 (by
 rintro⟨(r:Sf_),(c:Sj_),_⟩ hp;refine ho (.lf ZL (r.to.host==c.to.host&&(r.to.path==c.to.path&&true),())) ?_;refine lfY ?_;all_goals
  try simp only[Dj] at *
  try simp only[ZL,std,Nat.reduceAdd] at *
  try simp(disch:=omega) only[wrapId',toNat1] at *
  try simp(disch:=omega) only[Qa1,Qa4]
 all_goals first|trivial|omega|grind[wrapId',toNat1,drop_cons,drop_end,good_len,maxLen])
def AG:Fct:=⟨[aL .request,.c 240 [.el .conn]],[rI],λx=>x.1.length<=1000000000000000000/\∀ c,ZL.pre (c,x.2.1),λx=>(fidx (λc=>(ZL.fn (c,x.2.1)).1) x.1 0,())⟩
abbrev Ah (l:(List Sf_)) (u:(Sj_×Unit)):LInv:=⟨[⟨.s,8,true,.el .int⟩],λ_ (x_:Int×Unit)=>0<=x_.1/\x_.1<=l.length/\fidx (λc=>(ZL.fn (c,u)).1) l 0=fidx (λc=>(ZL.fn (c,u)).1) (l.drop x_.1.toNat) x_.1,λ(x_:Int×Unit)=>l.length-x_.1.toNat⟩
def AoP:=Am5.a AG<|Fct.p (KP [0,1,4,5,7,8] [9,16]) (λ⟨l,u,_⟩=>lv [(2,Ah l u)]) Am5.2 func316 (by
 rintro⟨(l:List Sf_),(u:Sj_×PUnit),_⟩ hp;refine ho (lpx (Ah l u) ((0:Int),()) λ(y1:Int×PUnit) bk1=>.br (decide (y1.1<(l.length:Int))) (.ob (inB y1.1 l.length)<|.cl ZL (l.getD y1.1.toNat default,u.1,()) λz2=>.br (z2.1) (.lf AG (y1.1,())) (.ob (l=l)<|.ob (enc Ty.conn u.1=enc Ty.conn u.1)<|.ob (Value.int IntKind.i64 (l.length:Int)=Value.int IntKind.i64 (l.length:Int))<|.ob (bk1 (w1 y1.1,()))<|.ok)) (.lf AG ((-1:Int),()))) ?_;refine Aj ?_ λ(y1:Int×PUnit) i1=>Ab (λh2=>Aa ?_ λ_=>Af trivial λ_=>(Ab (λh4=>lfY ?_) (λh4=>Aa rfl λ_=>Aa rfl λ_=>Aa rfl λ_=>Aa ?_ λ_=>trivial))) (λh2=>lfY ?_)
 all_goals
  try simp only[Ah,AG,ZL,std,Nat.reduceAdd] at *
  try have hp2:=hp.2
  try have hp1:=hp.1
 all_goals first|trivial|omega|grind[wrapId',toNat1,drop_cons,drop_end,good_len,maxLen,fidx])
def AK:Fct:=⟨[aL .request,.c 240 [.el .conn]],[rB],λx=>x.1.length<=1000000000000000000/\∀ c,ZL.pre (c,x.2.1),λx=>(x.1.any (λc=>(ZL.fn (c,x.2.1)).1),())⟩
def ApH:=AoP.a AK<|Fct.o [0,1,4] AoP.2 func239 (by
 rintro⟨(l:List Sf_),(u:Sj_×PUnit),_⟩ hp;refine ho (.cl AG (l,(u.1,()),()) λ(z2:Int×PUnit)=>.lf AK (decide (z2.1>=0),())) ?_;refine Af ?_ λ_=>(lfY ?_)
 all_goals try simp only[AK,AG,std,Nat.reduceAdd] at *
 all_goals first|trivial|omega|(rw[Bool.eq_iff_iff];exact decide_eq_true_iff.trans (IF _ _ _ o_)))
def needsTo (p:Sa_) (a:Sb_):Bool:=(nextNeeds p).any λr=>decide (r.to=a)
def finishC (l:Sc_) (c:Sj_):Sc_ :=
 if needsTo l.page c.to=true then(if c.guess=true then{ l with net:=keepAnswer l.net l.page.addr.host c.to c.bd,page:=takeAnswer l.page c.to c.bd } else{ l with page:=takeAnswer l.page c.to c.bd })
 else if c.guess=true then{ l with guesses:=(addGuess l.guesses c.to c.bd).1 } else l
def finish1 (l:Sc_) (k:Int):Sc_:=finishC { l with conns:=closeConn l.conns k } (l.conns.getD k.toNat default)
def okFin (l:Sc_):Prop:=(okFM l.page/\l.page.bf.length+l.page.bh.length<=1000000000000)/\(l.conns.length<=1048576/\okCs l.conns)/\l.guesses.length<=4194304/\szNet l.net<=10000000000/\szCache l.net.cache<=90000000
def Ahu {α:Type} [Inhabited α] (f:α->Bool) {l:List α} {i:Nat} (h:i<l.length):(l.drop i).any f=(f (l.getD i default)||(l.drop (i+1)).any f):=by rw[drop_cons h];rfl
def Abb {α:Type} (f:α->Bool) {l:List α} {i:Nat} (h:l.length<=i):(l.drop i).any f=false:=by rw[Qb2 h];rfl
def FJ:GS:=⟨[.g (.el .loader),.l (.v (.el .int))],[.el .loader],λ(x_:Sc_×Int×Unit)=>okFin x_.1/\0<=x_.2.1/\x_.2.1<x_.1.conns.length,λ(x_:Sc_×Int×Unit)=>((finish1 x_.1 x_.2.1,()),(()))⟩
abbrev Cb (l:Sc_) (k:Int):LInv:=⟨[⟨.s,7,true,.el .int⟩,⟨.b,2,true,.el .loader⟩,⟨.b,4,true,.el .loader⟩,⟨.b,5,true,.el .conn⟩,⟨.s,6,true,.sl .request⟩],λ_ (x_:Int×Sc_×Sc_×Sj_×(List Sf_)×Unit)=>x_.2.1={ l with conns:=closeConn l.conns k }/\x_.2.2.2.1=l.conns.getD k.toNat default/\x_.2.2.2.2.1=nextNeeds l.page/\0<=x_.1/\x_.1<=(nextNeeds l.page).length/\((nextNeeds l.page).drop x_.1.toNat).any (λr=>decide (r.to=(l.conns.getD k.toNat default).to))=needsTo l.page (l.conns.getD k.toNat default).to,λ(x_:Int×Sc_×Sc_×Sj_×(List Sf_)×Unit)=>(nextNeeds l.page).length-x_.1.toNat⟩
def Aos:=ApH.G FJ<|GS.of (S:=FJ) (L:=λ⟨l,k,_⟩=>λ|5=>some (Cb l k)|_=>none) (kp:=(KP [1,2,4,5,6,7] [24,34,36,59])) ApH.2 func211 k_ k_ (by
 rintro⟨(l:Sc_),(k:Int),_⟩ hp;refine ho (.ob (inB k l.conns.length)<|.ob (k.toNat<l.conns.length)<|.cl Cm (l.conns,k,()) λz2=>.cl Bw (l.page,()) λz3=>lpx (Cb l k) ((0:Int),(({l with conns:=z2.1}:Sc_),(default,(l.conns.getD k.toNat default,(z3.1,()))))) λ(y5:Int×Sc_×Sc_×Sj_×List Sf_×PUnit) bk5=>let q0_:=y5.2.2.2.2.1.getD y5.1.toNat default;.br (decide (y5.1<(y5.2.2.2.2.1.length:Int))) (.ob (inB y5.1 y5.2.2.2.2.1.length)<|.ob (y5.1.toNat<y5.2.2.2.2.1.length)<|.br (q0_.to.host==y5.2.2.2.1.to.host&&(q0_.to.path==y5.2.2.2.1.to.path&&true)) (.br (y5.2.2.2.1.guess) (.cl fKeepAnswer (y5.2.1.net,y5.2.1.page.addr.host,y5.2.2.2.1.to,y5.2.2.2.1.bd,()) λz4=>.cl A5 (y5.2.1.page,y5.2.2.2.1.to,y5.2.2.2.1.bd,()) λz5=>GS.out FJ (({y5.2.1 with net:=z4.1,page:=z5.1},()),(()))) (.cl A5 (y5.2.1.page,y5.2.2.2.1.to,y5.2.2.2.1.bd,()) λz6=>GS.out FJ (({y5.2.1 with page:=z6.1},()),(())))) (.ob (Value.int IntKind.i64 k=Value.int IntKind.i64 k)<|.ob (bk5 (w1 y5.1,(y5.2.1,(y5.2.2.1,(y5.2.2.2.1,(y5.2.2.2.2.1,()))))))<|.ok)) (.br (y5.2.2.2.1.guess) (.cl CU (y5.2.1.guesses,y5.2.2.2.1.to,y5.2.2.2.1.bd,()) λz7=>GS.out FJ (({y5.2.1 with guesses:=z7.1},()),(()))) (GS.out FJ ((y5.2.1,()),(()))))) ?_;repeat' first|(guard_target =~ Out.holds _ _;first|refine Aj (li:=Cb l k) ?_ λ(y5:Int×Sc_×Sc_×Sj_×List Sf_×PUnit) i5=>?_|refine GS.leafY ?_|refine Ab (λ_=>?_) λ_=>?_|refine Af ?_ λ_=>?_|refine Aa ?_ λ_=>?_)|exact trivial
 all_goals obtain⟨⟨⟨q1,q2⟩,⟨q3,q4⟩,q5,q6,q7⟩,q8,q9⟩:=(show okFin l/\0<=k/\k<l.conns.length from hp)
 all_goals
  try simp only[Hq] at *
  try simp only[Cb,CU,Cm,FJ,fKeepAnswer,Bw,A5,std,Nat.reduceAdd] at *
 all_goals first|trivial|omega|exact⟨o_,o_,rfl⟩|skip
 all_goals
  have hc:=q4 _ (A8 (show k.toNat<l.conns.length from o_));have hc1:(l.conns.getD k.toNat default).bd.body.size+(l.conns.getD k.toNat default).bd.bj.size<=1048576:=hc.1;have hok:=Dq (En q1);have hn:=Fv l.page;have hh:l.page.addr.host.size<=4000000:=by have:=hok.2.1;simp only[szAddr] at this;omega
 all_goals (obtain⟨e1,e2,e3,a1,a2,a3⟩:=i5;simp only[e1,e2,e3,Dj,Qa9,Qa8] at *)
 all_goals first|trivial|omega|exact⟨o_,o_,o_,o_,o_⟩|exact⟨q1,o_,o_,o_⟩|skip
 all_goals first|(have e:=Ahu (λr:Sf_=>decide (r.to=(l.conns.getD k.toNat default).to)) (l:=nextNeeds l.page) (i:=y5.1.toNat) o_)|(have e:=Abb (λr:Sf_=>decide (r.to=(l.conns.getD k.toNat default).to)) (l:=nextNeeds l.page) (i:=y5.1.toNat) o_)
 all_goals rw[a3] at e
 all_goals first|(rw[show decide (((nextNeeds l.page).getD y5.1.toNat default).to=(l.conns.getD k.toNat default).to)=false from Qg6 ‹_›,Bool.false_or] at e;rw[Ag o_,show(y5.1+1).toNat=y5.1.toNat+1 from o_];exact⟨⟨trivial,trivial,trivial,o_,o_,e.symm⟩,o_⟩)|skip
 all_goals first|(rw[show decide (((nextNeeds l.page).getD y5.1.toNat default).to=(l.conns.getD k.toNat default).to)=true from Qf2 ‹_›,Bool.true_or] at e)|skip
 all_goals first|(have hg:(l.conns.getD k.toNat default).guess=true:=by assumption)|(have hg:(l.conns.getD k.toNat default).guess=false:=by assumption)|skip
 all_goals (unfold finish1 finishC;dsimp only;simp only[e,hg,Qd3,Qf0,Qe7]))
def Ht {s:ByteArray} (h:isName s=true):s.size<=8:=by
 unfold isName at h;simp only[Qa2,Qa9] at h;exact h.2.2
def Y6 (p:Si_):(formatPolicy p).size<=300:=by
 unfold formatPolicy;split
 ·rename_i h;simp only[Qa2] at h;obtain⟨a1,a2,a3,a4,a5,a6,a7⟩:=F5 h.1 h.2;have b1:=GR p.bp ⟨#[115,99,114,105,112,116]⟩ a1;have b2:=GR p.styles ⟨#[115,116,121,108,101]⟩ a3;have b3:=GR p.images ⟨#[105,109,103]⟩ a5;have c1:(⟨#[115,99,114,105,112,116]⟩:ByteArray).size=6:=rfl;have c2:(⟨#[115,116,121,108,101]⟩:ByteArray).size=5:=rfl;have c3:(⟨#[105,109,103]⟩:ByteArray).size=3:=rfl;have c4:(⟨#[59]⟩:ByteArray).size=1:=rfl;have c5:(⟨#[59,110,111,110,99,101,32]⟩:ByteArray).size=7:=rfl;split<;>(simp only[Qb3];omega)
 ·exact Nat.zero_le _
def Qf {x:Sd_} (h:isResponse x=true):Ae x<=700:=by
 unfold isResponse at h;simp only[Qa2,Qa9] at h;obtain⟨_,_,h1,_,h2⟩:=h;have h3:x.bj.size<=300:=by
  unfold parsePolicy at h2;split at h2
  ·rename_i e;rw[e];exact Nat.zero_le _
  ·split at h2
   ·rename_i e;rw[<-e.2];exact Y6 _
   ·cases h2
 simp only[Ae];omega
def Uw {all:List Sq_}:∀ {l:List Sq_} {k:Int},entOk all l k=true->szL AP l<=800*l.length
 | [],_,_=>Qa7 _
 | e::l,k,h=>by simp only[entOk,Qa2] at h;obtain⟨⟨⟨⟨⟨h1,h2,h3⟩,h4⟩,_⟩,_⟩,h5⟩:=h;have a1:=Ht h1;have a2:=Ht h2;have a3:=Ht h3;have a4:=Qf h4;have a5:=Uw h5;rw[Aw,Qa6];simp only[AP,szAddr];omega
def VX {c:Sm_} (h:isCache c=true):szCache c<=80000:=by
 unfold isCache at h;simp only[Qa2,Qa9] at h;have:=Uw h.1;simp only[szCache];omega
def U0 (c:Sm_) (t:ByteArray) (a:Sb_) (x:Sd_) (now:Int) {B:Nat} (h:szCache c<=B) (hB:80000<=B):szCache (storeEntry c t a x now)<=B:=by
 unfold storeEntry;split
 ·rename_i q;exact Qd7 (VX q.2.2.2) hB
 ·exact h
def okNk (n:Su_):Prop:=szNet n<=szCache n.cache+9000000000/\szCache n.cache<=90000000
def keep_okNk {n:Su_} (h:okNk n) (t:ByteArray) (a:Sb_) (x:Sd_):okNk (keepAnswer n t a x):=by
 unfold keepAnswer;split
 ·have:=U0 n.cache t a x n.now h.2 o_;refine⟨?_,this⟩;have h1:=h.1;simp only[szNet] at *;omega
 ·exact h
def wB (x:Sd_):Nat:=min 400 x.body.size
def wCs (l:List Sj_):Nat:=(l.map λc=>wB c.bd).sum
def Xz (p:Si_) (r:Sf_) (x:Sd_):(usable p r x).1.size<=wB x:=by
 have h1:=Jd p r x;have h2:(usable p r x).1.size<=x.body.size:=by
  unfold usable;split
  ·exact Qa7 _
  ·exact Nat.zero_le _
 unfold wB;omega
def Nc {p:Sa_} {Q M R:Nat} (h:okAll p Q M R) (a:Sb_) (x:Sd_):okAll (fillModule p a x) Q (M+600*wB x) (R+20*wB x):=by
 have mono:∀ {q:Sa_} {M' R':Nat},okAll q Q M' R'->M'<=M+600*wB x->R'<=R+20*wB x->okAll q Q (M+600*wB x) (R+20*wB x):=λh hM hR=>by obtain⟨h1,h2,h3,⟨h4,h5,h6,h7⟩,h8⟩:=h;exact⟨h1,h2,h3,⟨h4,o_,o_,h7⟩,h8⟩
 unfold fillModule;split
 ·exact mono h o_ o_
 ·rename_i hc;have h0:0<=findMod p.bh a:=o_
  have hd:(p.bh.getD (findMod p.bh a).toNat default).done=false:=by
   cases hq:(p.bh.getD (findMod p.bh a).toNat default).done with
   | false=>rfl
   | true=>exact absurd (.inr hq) hc
  obtain⟨i1,_⟩:=JJ (x:=x) h0;have i2:(imports (fillM0 p a x) a).1.length<=wB x:=by
   obtain⟨_,h2⟩:=EC (fillM0 p a x) a;obtain⟨f1,f2⟩:=G5 p a x h0;rw[f1,f2] at h2;rcases h2 with h2|⟨_,h2⟩
   ·rw[h2];exact Nat.zero_le _
   ·exact Qd7 h2 (Xz ..)
  exact mono (RT _ _ M R (M5 h a x h0 hd) i1) o_ o_
def Kb {p:Sa_} {Q M R:Nat} (h:okAll p Q M R) (a:Sb_) (x:Sd_):okAll (takeAnswer p a x) (Q+740000) (M+600*wB x) (R+20*wB x):=by
 have:=My h a x p.bf.length;rw[Ic (Qa7 _)] at this;exact ND (Nc this a x)
def okPot (l:Sc_):Prop:=∃ Q M R,okAll l.page Q M R/\Q+740000*l.conns.length<=899000000000/\M+600*wCs l.conns<=49000000000/\R+20*wCs l.conns<=19000000000
def okT (l:Sc_):Prop:=okPot l/\(okCs l.conns/\l.conns.length<=1048576/\l.guesses.length+l.conns.length<=4194304)/\okNk l.net
def R7 {l:Sc_} (h:okT l):okFin l:=by
 obtain⟨⟨Q,M,R,h1,h2,h3,h4⟩,⟨h5,h6a,h6⟩,h7,h8⟩:=h;have hf:okFM l.page:=⟨Q,M,R,h1,o_,o_,o_⟩;have hp:=Dq (En hf);exact⟨⟨hf,o_⟩,⟨o_,h5⟩,o_,o_,h8⟩
def Lh {l:List Sj_} {k:Int} (h0:0<=k) (h:k<l.length):closeConn l k=l.take k.toNat++l.drop (k.toNat+1):=by unfold closeConn;rw[Qa1 ⟨h0,h⟩]
def Hs {l:List Sj_} {k:Int} (h0:0<=k) (h:k<l.length):(closeConn l k).length+1=l.length:=by
 rw[Lh h0 h,Qa3,Qc0,Qe4];omega
def Qe {l:List Sj_} {k:Int} (h0:0<=k) (h:k<l.length):wCs (closeConn l k)+wB (l.getD k.toNat default).bd=wCs l:=by
 have e:l.take k.toNat++l.getD k.toNat default::l.drop (k.toNat+1)=l:=by rw[<-drop_cons (show k.toNat<l.length from o_),Qd2]
 have g:wCs (l.take k.toNat++l.getD k.toNat default::l.drop (k.toNat+1))=wCs l:=by rw[e]
 rw[Lh h0 h];unfold wCs at *
 simp only[List.map_append,Qc5,List.sum_append,List.sum_cons] at *
 omega
def Acy {l:List Sj_} {k:Int} (h0:0<=k) (h:k<l.length):szL Cc (closeConn l k)+(Cc (l.getD k.toNat default)+1)=szL Cc l:=by
 have e:l.take k.toNat++l.getD k.toNat default::l.drop (k.toNat+1)=l:=by rw[<-drop_cons (show k.toNat<l.length from o_),Qd2]
 have g:szL Cc (l.take k.toNat++l.getD k.toNat default::l.drop (k.toNat+1))=szL Cc l:=by rw[e]
 rw[Lh h0 h];rw[Dg,Aw] at g;rw[Dg];omega
def UP {l:List Sj_} {k:Int} (h0:0<=k) (h:k<l.length) (ho:okCs l):okCs (closeConn l k):=by
 rw[Lh h0 h];intro c hc;rcases Qb8.1 hc with q|q
 ·exact ho c (List.mem_of_mem_take q)
 ·exact ho c (List.mem_of_mem_drop q)
def UL (l:List Sl_) (a:Sb_) (x:Sd_):(addGuess l a x).1.length<=l.length+1:=by
 unfold addGuess;split
 ·exact Nat.le_succ _
 ·simp only[Qa3,Qa6,Qb7];omega
def AeW (l:List Sl_) (a:Sb_) (x:Sd_):szL Bs (addGuess l a x).1<=szL Bs l+(szAddr a+Ae x+1):=by
 unfold addGuess;split
 ·simp only;omega
 ·simp only;rw[Fb];simp only[Bs];omega
def P1 (l:Sc_) (k:Int):(finish1 l k).conns=closeConn l.conns k:=by
 unfold finish1 finishC;split
 ·split<;>rfl
 ·split<;>rfl
def Acm {l:Sc_} {k:Int} (h:okT l) (h0:0<=k) (hk:k<l.conns.length):okT (finish1 l k):=by
 obtain⟨⟨Q,M,R,h1,h2,h3,h4⟩,⟨h5,h6a,h6⟩,h7⟩:=h;have c1:=Hs h0 hk;have c2:=Qe h0 hk;have c3:=UP h0 hk h5;have ha:=Kb h1 (l.conns.getD k.toNat default).to (l.conns.getD k.toNat default).bd;have hg:=UL l.guesses (l.conns.getD k.toNat default).to (l.conns.getD k.toNat default).bd;unfold finish1 finishC;dsimp only;split
 ·split
  ·exact⟨⟨_,_,_,ha,by dsimp only;omega,by dsimp only;omega,by dsimp only;omega⟩,⟨c3,by dsimp only;omega,by dsimp only;omega⟩,keep_okNk h7 _ _ _⟩
  ·exact⟨⟨_,_,_,ha,by dsimp only;omega,by dsimp only;omega,by dsimp only;omega⟩,⟨c3,by dsimp only;omega,by dsimp only;omega⟩,h7⟩
 ·split
  ·exact⟨⟨_,_,_,h1,by dsimp only;omega,by dsimp only;omega,by dsimp only;omega⟩,⟨c3,by dsimp only;omega,by dsimp only;omega⟩,h7⟩
  ·exact⟨⟨_,_,_,h1,by dsimp only;omega,by dsimp only;omega,by dsimp only;omega⟩,⟨c3,by dsimp only;omega,by dsimp only;omega⟩,h7⟩
def Ec:∀ (l:List Sj_) (z:Int),0<=z->-1<=firstDone l z/\firstDone l z<z+l.length/\(firstDone l z<0\/z<=firstDone l z)
 | [],z,h=>by
  rw[firstDone,Qb7];omega
 | c::l,z,h=>by have:=Ec l (z+1) o_;rw[firstDone,Qa6];split<;>omega
def xfer:Nat->Sc_->Sc_
 | 0,l=>l
 | n+1,l=>if firstDone l.conns 0<0 then l else xfer n (finish1 l (firstDone l.conns 0))
def ZM {l:Sc_} (h:firstDone l.conns 0<0):∀ n,xfer n l=l
 | 0=>rfl
 | n+1=>by rw[xfer,Qa1 h]
def Ahi {l:Sc_} {n:Nat} (h:0<=firstDone l.conns 0):xfer (n+1) l=xfer n (finish1 l (firstDone l.conns 0)):=by rw[xfer,Qa4 o_]
def moved (l:Sc_) (b:Int):Sc_:={ l with conns:=moveConns l.conns b }
def transfer (l:Sc_) (b:Int):Sc_×Bool:=if l.conns.length=0\/inRange b 1 1000=false then(l,false) else(xfer l.conns.length (moved l b),true)
def AeE (l:List Sj_) (b:Int):wCs (moveConns l b)=wCs l:=by
 unfold moveConns;split
 ·unfold wCs;rw[Qg0];rfl
 ·rfl
def Afi (l:List Sj_) (b:Int):szL Cc (moveConns l b)=szL Cc l:=by
 unfold moveConns;split
 ·unfold szL;rw[Qg0,Qe9];rfl
 ·rfl
def Y1 {l:List Sj_} (b:Int) (h:okCs l):okCs (moveConns l b):=by
 unfold moveConns;split
 ·intro c hc;obtain⟨d,hd,rfl⟩:=Qg7.1 hc;exact h d hd
 ·exact h
def Adu {l:Sc_} (h:okT l) (b:Int):okT (moved l b):=by
 obtain⟨⟨Q,M,R,h1,h2,h3,h4⟩,⟨h5,h6a,h6⟩,h7⟩:=h;have e1:=Dn l.conns b;have e2:=AeE l.conns b;unfold moved;exact⟨⟨Q,M,R,h1,by dsimp only;omega,by dsimp only;omega,by dsimp only;omega⟩,⟨Y1 b h5,by dsimp only;omega,by dsimp only;omega⟩,h7⟩
def xInv (l0 l:Sc_) (n:Nat):Prop:=okT l/\l.conns.length<=n/\xfer n l=l0
def Ra {l0 l:Sc_} {n:Nat} (h:xInv l0 l (n+1)) (h0:0<=firstDone l.conns 0):xInv l0 (finish1 l (firstDone l.conns 0)) n:=by
 obtain⟨h1,h2,h3⟩:=h;have hd:=Ec l.conns 0 o_;rw[Ahi h0] at h3;have hl:=Hs h0 (show firstDone l.conns 0<l.conns.length from o_);exact⟨Acm h1 h0 o_,by rw[P1];omega,h3⟩
def Q3 {l0 l:Sc_} {n:Nat} (h:xInv l0 l n) (h0:firstDone l.conns 0<0):l=l0:=by
 have:=h.2.2
 rwa [ZM h0] at this
def okTr (l:Sc_):Prop:=okT l/\l.parts.length<=1000000000
def Jz {l:Sc_} (h:okT l) (hp:l.parts.length<=1000000000):szNet l.net<=68719476736/\szPage l.page<=1099511627776/\l.parts.length<=1000000000/\l.conns.length<=1048576/\l.guesses.length<=4194304:=by
 have hf:=R7 h;have hq:=Dq (En hf.1.1);exact⟨by have:=hf.2.2.2.1;omega,o_,hp,hf.2.1.1,hf.2.2.1⟩
def Adz {l:Sc_} {b:Int} (h:l.conns.length=0\/inRange b 1 1000=false):transfer l b=(l,false):=by unfold transfer;rw[Qa1 h]
def Aei {l:Sc_} {b:Int} (h1:¬ l.conns.length=0) (h2:inRange b 1 1000=true):transfer l b=(xfer l.conns.length (moved l b),true):=by
 unfold transfer;rw[Qa4 (by rintro(q|q);exact h1 q;rw[h2] at q;cases q)]
def Aeo {l:Sc_} (h:okT l) (b:Int):xInv (xfer l.conns.length (moved l b)) { net:=l.net,page:=l.page,parts:=l.parts,conns:=moveConns l.conns b,guesses:=l.guesses } l.conns.length:=⟨Adu h b,Nat.le_of_eq (Dn l.conns b),rfl⟩
def ZS {l0 l:Sc_} (h:xInv l0 l l.conns.length) (h0:0<=firstDone l.conns 0):xInv l0 (finish1 l (firstDone l.conns 0)) (closeConn l.conns (firstDone l.conns 0)).length:=by
 have hd:=Ec l.conns 0 o_;have hl:=Hs h0 (show firstDone l.conns 0<l.conns.length from o_);rw[<-hl] at h;exact Ra h h0
def Aj7 {l:Sc_} {k:Int} (h1:needsTo l.page (l.conns.getD k.toNat default).to=true) (h2:(l.conns.getD k.toNat default).guess=true):finish1 l k={ net:=keepAnswer l.net l.page.addr.host (l.conns.getD k.toNat default).to (l.conns.getD k.toNat default).bd,page:=takeAnswer l.page (l.conns.getD k.toNat default).to (l.conns.getD k.toNat default).bd,parts:=l.parts,conns:=closeConn l.conns k,guesses:=l.guesses }:=by
 unfold finish1 finishC;dsimp only;rw[Qa1 h1,Qa1 h2]
def AjP {l:Sc_} {k:Int} (h1:needsTo l.page (l.conns.getD k.toNat default).to=true) (h2:(l.conns.getD k.toNat default).guess=false):finish1 l k={ net:=l.net,page:=takeAnswer l.page (l.conns.getD k.toNat default).to (l.conns.getD k.toNat default).bd,parts:=l.parts,conns:=closeConn l.conns k,guesses:=l.guesses }:=by
 unfold finish1 finishC;dsimp only;rw[Qa1 h1,Qa4 (by rw[h2];decide)]
def AjV {l:Sc_} {k:Int} (h1:needsTo l.page (l.conns.getD k.toNat default).to=false) (h2:(l.conns.getD k.toNat default).guess=true):finish1 l k={ net:=l.net,page:=l.page,parts:=l.parts,conns:=closeConn l.conns k,guesses:=(addGuess l.guesses (l.conns.getD k.toNat default).to (l.conns.getD k.toNat default).bd).1 }:=by
 unfold finish1 finishC;dsimp only;rw[Qa4 (by rw[h1];decide),Qa1 h2]
def Ajm {l:Sc_} {k:Int} (h1:needsTo l.page (l.conns.getD k.toNat default).to=false) (h2:(l.conns.getD k.toNat default).guess=false):finish1 l k={ net:=l.net,page:=l.page,parts:=l.parts,conns:=closeConn l.conns k,guesses:=l.guesses }:=by
 unfold finish1 finishC;dsimp only;rw[Qa4 (by rw[h1];decide),Qa4 (by rw[h2];decide)]
def Do:Fct:=⟨[.v (.el .loader),.v (.el .int)],[.el .loader,.el .bool],λ(x_:Sc_×Int×Unit)=>okTr x_.1,λ(x_:Sc_×Int×Unit)=>((transfer x_.1 x_.2.1).1,(transfer x_.1 x_.2.1).2,())⟩
abbrev Dh (l:Sc_) (b:Int):LInv:=⟨[⟨.b,6,true,.el .loader⟩,⟨.s,7,true,.el .int⟩,⟨.b,2,false,.el .loader⟩,⟨.b,4,true,.el .loader⟩],λ(z_ x_:Sc_×Int×Sc_×Sc_×Unit)=>((0<=x_.2.1/\x_.2.1<=l.conns.length/\xInv (xfer l.conns.length (moved l b)) x_.1 (l.conns.length-x_.2.1.toNat))/\x_.2.2.1=z_.2.2.1)/\x_.2.2.2.1=z_.2.2.2.1,λ(x_:Sc_×Int×Sc_×Sc_×Unit)=>l.conns.length-x_.2.1.toNat⟩
def AkP:=Aos.a Do<|Fct.p (KP [1,2,4,5,6,7,8] [19,30,37]) (λ⟨l,b,_⟩=>lv [(6,Dh l b)]) Aos.2 func135 (by
 rintro⟨(l:Sc_),(b:Int),_⟩ hp;refine ho (.cl fCopyLoader (l,()) λz2=>.br ((l.conns.length:Int)==0) (.lf Do (z2.1,false,())) (.cl fInRange (b,(1:Int),(1000:Int),()) λz3=>.br (!z3.1) (.lf Do (z2.1,false,())) (.cl Je (l.conns,b,()) λz4=>lpx (Dh l b) ((⟨z2.1.net,z2.1.page,z2.1.parts,z4.1,z2.1.guesses⟩:Sc_),((0:Int),(l,(default,())))) λ(y5:Sc_×Int×Sc_×Sc_×PUnit) bk5=>.br (decide (y5.2.1<(y5.2.2.1.conns.length:Int))) (.cl Gn (y5.1.conns,()) λ(z5:Int×PUnit)=>.br (decide (z5.1<0)) (.lf Do (y5.1,true,())) (.ob (FJ.pre (y5.1,z5.1,()))<|.lt _ (FJ.fn (y5.1,z5.1,())) λz6=>.ob (Value.int IntKind.i64 b=Value.int IntKind.i64 b)<|.ob (bk5 (z6.1.1,(w1 y5.2.1,(y5.2.2.1,(y5.2.2.2.1,())))))<|.ok)) (.lf Do (y5.1,true,()))))) ?_;refine Af ?_ λ_=>(Ab (λh2=>lfY ?_) (λh2=>Af trivial λ_=>(Ab (λh3=>lfY ?_) (λh3=>Af ?_ λ_=>(Aj ?_ λ(y5:Sc_×Int×Sc_×Sc_×PUnit) i5=>Ab (λh6=>Af ?_ λ_=>(Ab (λh8=>lfY ?_) (λh8=>Aa ?_ λ_=>DW (Aa rfl λ_=>Aa ?_ λ_=>trivial)))) (λh6=>lfY ?_))))))
 all_goals obtain⟨q1,q2⟩:=(show okTr l from hp)
 all_goals
  have hc:=Jz q1 q2;try simp only[Hq] at *
  try simp only[Dh,fCopyLoader,FJ,Gn,fInRange,Je,Do,std,Nat.reduceAdd] at *
 all_goals first|trivial|omega|exact hc|exact hc.2.2.2.1|(rw[Adz (.inl o_)];exact⟨rfl,rfl⟩)|(rw[Adz (.inr ‹_›)];exact⟨rfl,rfl⟩)|exact⟨o_,o_,Aeo q1 b⟩|skip
 all_goals (obtain⟨⟨⟨a1,a2,a3⟩,e1⟩,e2⟩:=i5;simp only[e1] at *)
 all_goals
  have hf:=R7 a3.1;have hd:=Ec y5.1.conns 0 o_;have ha:=a3.2.1
 all_goals first|trivial|omega|exact hf.2.1.1|exact⟨hf,o_,o_⟩|(rw[Aei o_ ‹_›];exact⟨Q3 a3 o_,rfl⟩)|skip
 all_goals rw[show l.conns.length-y5.2.1.toNat=(l.conns.length-(y5.2.1.toNat+1))+1 from o_] at a3
 all_goals rw[Ag o_,show(y5.2.1+1).toNat=y5.2.1.toNat+1 from o_]
 all_goals exact⟨⟨⟨⟨o_,o_,Ra a3 o_⟩,by trivial⟩,e2⟩,o_⟩)
abbrev B6 (l:Sc_) (b:Int):LInv:=⟨[⟨.b,6,true,.el .loader⟩,⟨.b,4,true,.el .loader⟩],λ(z_ x_:Sc_×Sc_×Unit)=>(xInv (xfer l.conns.length (moved l b)) x_.1 x_.1.conns.length)/\x_.2.1=z_.2.1,λ(x_:Sc_×Sc_×Unit)=>x_.1.conns.length⟩
def Ak2:=AkP.a Do<|Fct.p (KP [1,2,4,5,6,7,8,9] [20,31,48,59,72]) (λ⟨l,b,_⟩=>lv [(5,B6 l b)]) AkP.2 func150 (by
 rintro⟨(l:Sc_),(b:Int),_⟩ hp;refine ho (let q1_:=Value.int IntKind.i64 b=Value.int IntKind.i64 b;.cl fCopyLoader (l,()) λz2=>let q2_:Out:=.lf Do (z2.1,false,());.br ((l.conns.length:Int)==0) q2_ (.cl fInRange (b,(1:Int),(1000:Int),()) λz3=>.br (!z3.1) q2_ (.cl Je (z2.1.conns,b,()) λz4=>lpx (B6 l b) (({z2.1 with conns:=z4.1}:Sc_),(default,())) λ(y5:Sc_×Sc_×PUnit) bk5=>.cl Gn (y5.1.conns,()) λ(z5:Int×PUnit)=>let q0_:=y5.1.conns.getD z5.1.toNat default;.br (decide (z5.1<0)) (.lf Do (y5.1,true,())) (.ob (inB z5.1 y5.1.conns.length)<|.ob (z5.1.toNat<y5.1.conns.length)<|.cl Cm (y5.1.conns,z5.1,()) λz6=>.cl Bw (y5.1.page,()) λz7=>.cl AK (z7.1,(y5.1.conns.getD z5.1.toNat default,()),()) λz8=>.br (z8.1) (.cl A5 (y5.1.page,q0_.to,q0_.bd,()) λz9=>.br (q0_.guess) (.cl fKeepAnswer (y5.1.net,z9.1.addr.host,q0_.to,q0_.bd,()) λz10=>.ob q1_<|.ob (bk5 ((⟨z10.1,z9.1,y5.1.parts,z6.1,y5.1.guesses⟩:Sc_),(y5.2.1,())))<|.ok) (.ob q1_<|.ob (bk5 (({y5.1 with page:=z9.1,conns:=z6.1}:Sc_),(y5.2.1,())))<|.ok)) (.br (q0_.guess) (.cl CU (y5.1.guesses,q0_.to,q0_.bd,()) λz11=>.ob q1_<|.ob (bk5 (({y5.1 with conns:=z6.1,guesses:=z11.1}:Sc_),(y5.2.1,())))<|.ok) (.ob q1_<|.ob (bk5 (({y5.1 with conns:=z6.1}:Sc_),(y5.2.1,())))<|.ok)))))) ?_;repeat' first|(guard_target =~ Out.holds _ _;first|refine Aj (li:=B6 l b) ?_ λ(y5:Sc_×Sc_×PUnit) i5=>?_|refine lfY ?_|refine Ab (λ_=>?_) λ_=>?_|refine Af ?_ λ_=>?_|refine Aa ?_ λ_=>?_)|exact trivial
 all_goals obtain⟨q1,q2⟩:=(show okTr l from hp)
 all_goals
  have hc:=Jz q1 q2;try simp only[Hq] at *
  try simp only[B6,CU,Cm,AK,fCopyLoader,Gn,fInRange,fKeepAnswer,Je,Bw,A5,Do,std,Nat.reduceAdd] at *
 all_goals first|trivial|omega|exact hc|exact hc.2.2.2.1|(rw[Adz (.inl o_)];exact⟨rfl,rfl⟩)|(rw[Adz (.inr ‹_›)];exact⟨rfl,rfl⟩)|(rw[Dn];exact Aeo q1 b)|skip
 all_goals (obtain⟨a3,e1⟩:=i5)
 all_goals
  have hf:=R7 a3.1;have hd:=Ec y5.1.conns 0 o_
 all_goals first|trivial|omega|exact hf.2.1.1|exact hf.2.2.1|exact hf.1.2|(rw[Aei o_ ‹_›];exact⟨Q3 a3 o_,rfl⟩)|skip
 all_goals
  have hcs:=hf.2.1.2 _ (A8 (show(firstDone y5.1.conns 0).toNat<y5.1.conns.length from o_));have hs1:(y5.1.conns.getD (firstDone y5.1.conns 0).toNat default).bd.body.size+(y5.1.conns.getD (firstDone y5.1.conns 0).toNat default).bd.bj.size<=1048576:=hcs.1;have hn:=Fv y5.1.page;have hh:y5.1.page.addr.host.size<=4000000:=by have:=(Dq (En hf.1.1)).2.1;simp only[szAddr] at this;omega
  have hz:=hf.2.2.2;have hw:=hf.1.2
 all_goals first|exact⟨o_,λ_=>trivial⟩|exact⟨hf.1.1,o_,o_,o_⟩|(rw[G9];exact⟨o_,o_,o_,o_,o_⟩)|skip
 all_goals
  have hx:=ZS a3 o_;have hl:=Hs (show 0<=firstDone y5.1.conns 0 from o_) (show firstDone y5.1.conns 0<y5.1.conns.length from o_);try rw[G9]
 all_goals refine⟨⟨?_,e1⟩,o_⟩
 all_goals first|(rw[Aj7 ‹_› ‹_›] at hx;exact hx)|(rw[AjP ‹_› ‹_›] at hx;exact hx)|(rw[AjV ‹_› ‹_›] at hx;exact hx)|(rw[Ajm ‹_› ‹_›] at hx;exact hx))
def Aef:∀ l:List Sj_,wCs l<=szL Cc l
 | []=>Qa7 _
 | c::l=>by
  have:=Aef l;rw[Aw];unfold wCs at *
  simp only[Qc5,List.sum_cons,wB,Cc,Ae] at *
  omega
def Aic {l:Sc_} {k:Int} (h0:0<=k) (hk:k<l.conns.length):szL Cc (finish1 l k).conns+szL Bs (finish1 l k).guesses<=szL Cc l.conns+szL Bs l.guesses:=by
 have c1:=Acy h0 hk;have hg:=AeW l.guesses (l.conns.getD k.toNat default).to (l.conns.getD k.toNat default).bd;rw[P1];simp only[Cc] at c1;unfold finish1 finishC;split
 ·split<;>(dsimp only;omega)
 ·split<;>(dsimp only;omega)
def actOf (l:Sc_) (n:Int):Sc_×Bool:=if n=0 then arrivePart l else if n=1 then requestNext l else if n=2 then guessNext l else if n=3 then transfer l 20 else transfer l 200
def okAct (l:Sc_):Prop:=okArr l/\okRN l/\okGN l/\okTr l
def RE:Fct:=⟨[.v (.el .loader),.v (.el .int)],[.el .loader,.el .bool],λ(x_:Sc_×Int×Unit)=>okAct x_.1,λ(x_:Sc_×Int×Unit)=>((actOf x_.1 x_.2.1).1,(actOf x_.1 x_.2.1).2,())⟩
theorem q26 (l:Sc_) (n:Int) (hp:RE.pre (l,n,())):Out.holds (RE.ctr (l,n,())).post (.br (n==0) (.cl Ck (l,()) λz2=>.lf RE (z2.1,z2.2.1,())) (.br (n==1) (.cl BL (l,()) λz3=>.lf RE (z3.1,z3.2.1,())) (.br (n==2) (.cl CD (l,()) λz4=>.lf RE (z4.1,z4.2.1,())) (.br (n==3) (.cl Do (l,(20:Int),()) λz5=>.lf RE (z5.1,z5.2.1,())) (.cl Do (l,(200:Int),()) λz6=>.lf RE (z6.1,z6.2.1,())))))):=by
 repeat' (guard_target =~ Out.holds _ _;first|refine lfY ?_|refine Ab (λ_=>?_) λ_=>?_|refine Af ?_ λ_=>?_)
 all_goals obtain⟨w1,w2,w4,w3⟩:=(show okAct l from hp)
 all_goals try simp only[RE,Ck,CD,BL,Do,std,Nat.reduceAdd] at *
 all_goals first|trivial|omega|exact w1|exact w2|exact w3|exact w4|skip
 all_goals unfold actOf
 all_goals repeat first|(rw[Qa1 o_];exact⟨rfl,rfl⟩)|rw[Qa4 o_]
 all_goals first|exact⟨rfl,rfl⟩|skip
def Aks:=Ak2.a RE<|Fct.o (KP [1,2,4,5,6] [7,13,19,25]) Ak2.2 func78 (by
 rintro⟨(l:Sc_),(n:Int),_⟩ hp;exact ho _ (q26 l n hp))
def Akx:=Aks.a RE<|Fct.o (KP [1,2,4,5,6] [7,13,19,25]) Aks.2 func84 (by
 rintro⟨(l:Sc_),(n:Int),_⟩ hp;exact ho _ (q26 l n hp))
def stepR (l:Sc_) (c:Int):Nat->Sc_×Bool
 | 0=>(l,false)
 | n+1=>if(actOf l ((max 0 c % 5+(4-(n:Int))) % 5)).2=true then(actOf l ((max 0 c % 5+(4-(n:Int))) % 5)) else stepR l c n
def stepLoad (l:Sc_) (c:Int):Sc_×Bool:=stepR l c 5
def tm5 {a:Int} (h:0<=a):Int.tmod a 5=a % 5:=Int.tmod_eq_emod_of_nonneg h
def AiN {l:Sc_} {c i:Int} (h0:0<=i) (h5:i<5):stepR l c (5-i.toNat)=if(actOf l ((IntKind.i64.wrap (Int.tmod (max 0 c) 5+i)).tmod 5)).2=true then actOf l ((IntKind.i64.wrap (Int.tmod (max 0 c) 5+i)).tmod 5) else stepR l c (5-(i.toNat+1)):=by
 have e:(IntKind.i64.wrap (Int.tmod (max 0 c) 5+i)).tmod 5=(max 0 c % 5+(4-((5-(i.toNat+1):Nat):Int))) % 5:=by rw[tm5 (show 0<=max 0 c from o_),Ag o_,tm5 o_,show(4-((5-(i.toNat+1):Nat):Int))=i from o_]
 rw[e,show 5-i.toNat=(5-(i.toNat+1))+1 from o_];rw[stepR]
def AiU {l:Sc_} {c i:Int} (h:5<=i):stepR l c (5-i.toNat)=(l,false):=by rw[show 5-i.toNat=0 from o_];rfl
def CV:Fct:=⟨[.v (.el .loader),.v (.el .int)],[.el .loader,.el .bool],λ(x_:Sc_×Int×Unit)=>okAct x_.1,λ(x_:Sc_×Int×Unit)=>((stepLoad x_.1 x_.2.1).1,(stepLoad x_.1 x_.2.1).2,())⟩
abbrev Dc (l:Sc_) (c:Int):LInv:=⟨[⟨.s,7,true,.el .int⟩,⟨.b,2,false,.el .loader⟩,⟨.b,4,true,.el .loader⟩],λ(z_ x_:Int×Sc_×Sc_×Unit)=>((0<=x_.1/\x_.1<=5/\stepR l c (5-x_.1.toNat)=stepLoad l c)/\x_.2.1=z_.2.1)/\x_.2.2.1=z_.2.2.1,λ(x_:Int×Sc_×Sc_×Unit)=>5-x_.1.toNat⟩
def Al6:=Akx.a CV<|Fct.p (KP [1,2,4,5,6,7,8,9] [14,26]) (λ⟨l,c,_⟩=>lv [(3,Dc l c)]) Akx.2 func23 (by
 rintro⟨(l:Sc_),(c:Int),_⟩ hp;refine ho (.cl Aa0 ((0:Int),c,()) λ(z2:Int×PUnit)=>.ob ((5:Int)≠(0:Int))<|lpx (Dc l c) ((0:Int),(l,(default,()))) λ(y2:Int×Sc_×Sc_×PUnit) bk2=>.br (decide (y2.1<5)) (.ob ((5:Int)≠(0:Int))<|.cl RE (y2.2.1,(wr (z2.1.tmod (5:Int)+y2.1)).tmod (5:Int),()) λz3=>.br (z3.2.1) (.lf CV (z3.1,true,())) (.ob (Value.int IntKind.i64 c=Value.int IntKind.i64 c)<|.ob (Value.int IntKind.i64 (z2.1.tmod (5:Int))=Value.int IntKind.i64 (z2.1.tmod (5:Int)))<|.ob (bk2 (w1 y2.1,(y2.2.1,(y2.2.2.1,()))))<|.ok)) (.cl fCopyLoader (y2.2.1,()) λz4=>.lf CV (z4.1,false,()))) ?_;refine Af trivial λ_=>(Aa ?_ λ_=>Aj ?_ λ(y2:Int×Sc_×Sc_×PUnit) i2=>Ab (λh3=>Aa ?_ λ_=>Af ?_ λ_=>(Ab (λh6=>lfY ?_) (λh6=>Aa rfl λ_=>Aa rfl λ_=>Aa ?_ λ_=>trivial))) (λh3=>Af ?_ λ_=>(lfY ?_)))
 all_goals
  have hq:=(show okAct l from hp);have hw:=hq.2.2.2;try simp only[Dc,RE,fCopyLoader,Aa0,CV,std,Nat.reduceAdd] at *
 all_goals first|trivial|omega|exact⟨o_,o_,rfl⟩|skip
 all_goals (obtain⟨⟨⟨a1,a2,a3⟩,e1⟩,e2⟩:=i2;simp only[e1] at *)
 all_goals first|trivial|omega|exact hq|exact Jz hw.1 hw.2|skip
 all_goals first|(rw[AiU o_] at a3;rw[<-a3];exact⟨rfl,rfl⟩)|rw[AiN a1 o_] at a3
 all_goals first|(rw[Qa1 ‹_›] at a3;rw[<-a3];exact⟨rfl,Eq.symm ‹_›⟩)|(rw[Qa4 (λq=>tf q ‹_›)] at a3;rw[Ag o_,show(y2.1+1).toNat=y2.1.toNat+1 from o_];exact⟨⟨⟨⟨o_,o_,a3⟩,by trivial⟩,e2⟩,o_⟩))
abbrev C8 (l:Sc_) (c:Int):LInv:=⟨[⟨.s,6,true,.el .int⟩,⟨.b,2,false,.el .loader⟩,⟨.b,4,true,.el .loader⟩],λ(z_ x_:Int×Sc_×Sc_×Unit)=>((0<=x_.1/\x_.1<=5/\stepR l c (5-x_.1.toNat)=stepLoad l c)/\x_.2.1=z_.2.1)/\x_.2.2.1=z_.2.2.1,λ(x_:Int×Sc_×Sc_×Unit)=>5-x_.1.toNat⟩
def Amc:=Al6.a CV<|Fct.p (KP [1,2,4,5,6,7,8] [10,24]) (λ⟨l,c,_⟩=>lv [(2,C8 l c)]) Al6.2 func25 (by
 rintro⟨(l:Sc_),(c:Int),_⟩ hp;refine ho (lpx (C8 l c) ((0:Int),(l,(default,()))) λ(y1:Int×Sc_×Sc_×PUnit) bk1=>.br (decide (y1.1<5)) (.ob ((5:Int)≠(0:Int))<|.ob ((5:Int)≠(0:Int))<|.cl RE (y1.2.1,(wr ((if c>0 then c else(0:Int)).tmod (5:Int)+y1.1)).tmod (5:Int),()) λz2=>.br (z2.2.1) (.lf CV (z2.1,true,())) (.ob (Value.int IntKind.i64 c=Value.int IntKind.i64 c)<|.ob (bk1 (w1 y1.1,(y1.2.1,(y1.2.2.1,()))))<|.ok)) (.cl fCopyLoader (y1.2.1,()) λz3=>.lf CV (z3.1,false,()))) ?_;refine Aj ?_ λ(y1:Int×Sc_×Sc_×PUnit) i1=>Ab (λh2=>Aa ?_ λ_=>Aa ?_ λ_=>Af ?_ λ_=>(Ab (λh6=>lfY ?_) (λh6=>Aa rfl λ_=>Aa ?_ λ_=>trivial))) (λh2=>Af ?_ λ_=>(lfY ?_))
 all_goals
  have hq:=(show okAct l from hp);have hw:=hq.2.2.2;try simp only[C8,RE,fCopyLoader,CV,std,Nat.reduceAdd] at *
  try simp only[show(if c>0 then c else 0)=max 0 c from by split<;>omega] at *
 all_goals first|trivial|omega|exact⟨o_,o_,rfl⟩|skip
 all_goals (obtain⟨⟨⟨a1,a2,a3⟩,e1⟩,e2⟩:=i1;simp only[e1] at *)
 all_goals first|trivial|omega|exact hq|exact Jz hw.1 hw.2|skip
 all_goals first|(rw[AiU o_] at a3;rw[<-a3];exact⟨rfl,rfl⟩)|rw[AiN a1 o_] at a3
 all_goals first|(rw[Qa1 ‹_›] at a3;rw[<-a3];exact⟨rfl,Eq.symm ‹_›⟩)|(rw[Qa4 (λq=>tf q ‹_›)] at a3;rw[Ag o_,show(y1.1+1).toNat=y1.1.toNat+1 from o_];exact⟨⟨⟨⟨o_,o_,a3⟩,by trivial⟩,e2⟩,o_⟩))
def Kp (p:Sa_):Prop:=okTo p/\-9223372036854775808<=p.block/\p.block<=9223372036854775807
def TY {p q:Sa_} (h:Kp p) (hs:q.bf=p.bf) (hm:q.bh=p.bh) (hb:q.block=p.block):Kp q:=by
 unfold Kp okTo at *
 rw[hs,hm,hb];exact h
def VR (p:Sa_) (m:Int) (to d:ByteArray) (n:Int):(newSlot p m to d n).to=(parseAddr to p.addr.host).1:=by unfold newSlot;split<;>rfl
def UE {p:Sa_} (h:Kp p) (m:Int) (to d:ByteArray) (n:Int):Kp (addSlot p m to d n).1:=by
 unfold addSlot;split
 ·refine⟨⟨λs hs=>?_,h.1.2⟩,h.2⟩;rcases Qb8.1 hs with q|q
  ·exact h.1.1 s q
  ·rw[List.mem_singleton.1 q,VR];have:=FA to p.addr.host;omega
 ·exact h
def Ah1 {p:Sa_} (h:Kp p) {a:Sb_} (ha:szAddr a<=16):Kp (askModule p a):=by
 unfold askModule;split
 ·exact h
 ·refine⟨⟨h.1.1,λm hm=>?_⟩,h.2⟩;rcases Qb8.1 hm with q|q
  ·exact h.1.2 m (List.mem_of_mem_take q)
  ·rcases Qe5.1 q with q|q
   ·rw[q];have e:(newMod p a).to=a:=by unfold newMod;first|rfl|(split<;>rfl)
    rw[e];omega
   ·exact h.1.2 m (List.mem_of_mem_drop q)
def Agw {p:Sa_} (h:Kp p) (to:ByteArray):Kp (addEntry p to):=by
 unfold addEntry;split
 ·exact TY (Ah1 h (FA to p.addr.host)) rfl rfl rfl
 ·exact h
def Z8 {p:Sa_} (h:Kp p) (t:Sh_) (n:Int):Kp (element p t n):=by
 unfold element;split
 ·exact UE h ..
 ·split
  ·exact UE h ..
  ·exact h
def Abn {p:Sa_} (h:Kp p) (n:Int):Kp (script p n):=by
 unfold script;split
 ·split
  ·exact TY h rfl rfl rfl
  ·exact h
 ·split
  ·exact UE h ..
  ·split
   ·exact Agw h ..
   ·have hb:=Ko p 3 ((findAttr (p.ba.bi.getD n.toNat default).bo ⟨#[115,114,99]⟩).getD ⟨#[]⟩) ((findAttr (p.ba.bi.getD n.toNat default).bo ⟨#[100,105,103,101,115,116]⟩).getD ⟨#[]⟩) n;exact⟨(UE h ..).1,by dsimp only;omega,by dsimp only;omega⟩
def Aiv {p:Sa_} (h:Kp p) (s:ByteArray):Kp (say p s):=by
 unfold say;split
 ·exact TY h rfl rfl rfl
 ·exact h
def AgS {p:Sa_} (h:Kp p) (c:ByteArray) (w:Bool):Kp (runCode p c w):=by
 unfold runCode;split
 ·exact TY h rfl rfl rfl
 ·exact TY h rfl rfl rfl
def AgW {p:Sa_} (h:Kp p):Kp (takeToken p).1:=by
 unfold takeToken;split
 ·exact h
 ·have ht:Kp (taken p (p.bn.getD 0 default)):=TY h rfl rfl rfl;show Kp (takeTok p _);unfold takeTok;split
  ·exact Z8 ht _ _
  ·split
   ·exact Abn ht _
   ·exact ht
def Agf {p:Sa_} (h:Kp p):Kp { p with block:=0 }:=⟨h.1,by dsimp only;omega,by dsimp only;omega⟩
def Abw {p:Sa_} (h:Kp p):Kp (stepParser p).1:=by
 unfold stepParser;split
 ·unfold stepInline;split
  ·exact TY (AgS h _ _) rfl rfl rfl
  ·exact h
 ·split
  ·unfold stepBlock;split
   ·exact Agf h
   ·split
    ·exact h
    ·split
     ·exact Agf (AgS h _ _)
     ·exact Agf h
  ·exact AgW h
def N2 (p:Sa_):∀ (l:List Sb_) (q:Sa_),Kp q->Kp (enterAll p q l)
 | [],q,h=>h
 | b::l,q,h=>by
  refine N2 p l (enter1 p q b) ?_;unfold enter1;split
  ·exact h
  ·exact TY h rfl rfl rfl
def Ahf {p:Sa_} (h:Kp p) (a:Sb_):Kp (enter p a):=by
 unfold enter;split
 ·exact Aiv h _
 ·exact N2 p _ p h
def AhV {p:Sa_} (h:Kp p):Kp (stepTail p).1:=by
 unfold stepTail;split
 ·exact h
 ·split
  ·unfold tailDefer;split
   ·exact h
   ·split
    ·exact TY (AgS h _ _) rfl rfl rfl
    ·exact TY h rfl rfl rfl
  ·split
   ·unfold tailEnter;split
    ·exact h
    ·exact TY (Ahf h _) rfl rfl rfl
   ·split
    ·exact h
    ·exact TY (Aiv h _) rfl rfl rfl
def AeR:∀ (n:Nat) (p:Sa_),Kp p->Kp (adv n p)
 | 0,p,h=>h
 | n+1,p,h=>by
  rw[adv];split
  ·refine AeR n _ ?_;unfold step1;split
   ·exact Abw h
   ·exact AhV h
  ·exact h
def Aeg:∀ (l:List Sb_) (p:Sa_),Kp p->(∀ b,b∈l->b.host.size<=8/\b.path.size<=8)->Kp (l.foldl askModule p)
 | [],p,h,_=>h
 | b::l,p,h,hb=>Aeg l (askModule p b) (Ah1 h (by have:=hb b Qe8;simp only[szAddr];omega)) λc hc=>hb c (Qc7 _ hc)
def AbB (p:Sa_) (a:Sb_) (x:Sd_) (s:Sp_):(fillF p a x s).to=s.to:=by
 unfold fillF;split
 ·unfold fillS;split<;>rfl
 ·rfl
def JI {α:Type} {f:α->α} {m:α}:∀ {l:List α} {i:Nat},m∈l.modify i f->m∈l\/∃ z,z∈l/\m=f z
 | [],0,h=>.inl h
 | [],_+1,h=>.inl h
 | z::l,0,h=>by
  rcases Qe5.1 (show m∈f z::l from h) with q|q
  ·exact .inr ⟨z,Qe8,q⟩
  ·exact .inl (Qc7 _ q)
 | z::l,i+1,h=>by
  rcases Qe5.1 (show m∈z::l.modify i f from h) with q|q
  ·exact .inl (by rw[q];exact Qe8)
  ·rcases JI q with q|⟨w,h1,h2⟩
   ·exact .inl (Qc7 _ q)
   ·exact .inr ⟨w,Qc7 _ h1,h2⟩
def Abt {p:Sa_} (h:Kp p) (a:Sb_) (x:Sd_):Kp (fillM0 p a x):=by
 refine⟨⟨h.1.1,λm hm=>?_⟩,h.2⟩;rcases JI (show m∈p.bh.modify (findMod p.bh a).toNat (fillM p x) from hm) with q|⟨z,h1,h2⟩
 ·exact h.1.2 m q
 ·rw[h2];exact h.1.2 z h1
def Oj {p:Sa_} (h:Kp p) (a:Sb_) (x:Sd_):Kp (takeAnswer p a x):=by
 have h1:Kp (fillAll p a x):=by refine⟨⟨λs hs=>?_,h.1.2⟩,h.2⟩;obtain⟨z,hz,rfl⟩:=Qg7.1 (show s∈p.bf.map (fillF p a x) from hs);rw[AbB];exact h.1.1 z hz
 refine AeR 2000 _ ?_;unfold fillModule;split
 ·exact h1
 ·rename_i hc;exact Aeg _ _ (Abt h1 a x) (JJ (x:=x) (show 0<=findMod (fillAll p a x).bh a from o_)).1
def AiX {p:Sa_} (h:Kp p) (s:ByteArray):Kp (arriveText p s):=by
 unfold arriveText;split
 ·exact h
 ·exact TY h rfl rfl rfl
def Aj6 {p:Sa_} (h:Kp p):Kp (endPage p):=by
 unfold endPage;split
 ·exact h
 ·exact TY h rfl rfl rfl
def GO (p:Sa_) (m:Int) (to d:ByteArray) (n:Int):(addSlot p m to d n).1.tok=p.tok:=by unfold addSlot;split<;>rfl
def Aaw (p:Sa_) (a:Sb_):(askModule p a).tok=p.tok:=by unfold askModule;split<;>rfl
def Qi (p:Sa_) (to:ByteArray):(addEntry p to).tok=p.tok:=by
 unfold addEntry;split
 ·exact Aaw p _
 ·rfl
def Sr (p:Sa_) (t:Sh_) (n:Int):(element p t n).tok=p.tok:=by
 unfold element;split
 ·exact GO ..
 ·split
  ·exact GO ..
  ·rfl
def VD (p:Sa_) (n:Int):(script p n).tok=p.tok:=by
 unfold script;split
 ·split<;>rfl
 ·split
  ·exact GO ..
  ·split
   ·exact Qi ..
   ·exact GO p ..
def AaM (p:Sa_) (s:ByteArray):(say p s).tok=p.tok:=by unfold say;split<;>rfl
def Iw (p:Sa_) (c:ByteArray) (w:Bool):(runCode p c w).tok=p.tok:=by unfold runCode;split<;>rfl
def Pj (p:Sa_):(takeToken p).1.tok=p.tok:=by
 unfold takeToken;split
 ·rfl
 ·show(takeTok p _).tok=_;unfold takeTok;split
  ·exact Sr _ _ _
  ·split
   ·exact VD _ _
   ·rfl
def Wu (p:Sa_):(stepParser p).1.tok=p.tok:=by
 unfold stepParser;split
 ·unfold stepInline;split
  ·exact Iw _ _ _
  ·rfl
 ·split
  ·unfold stepBlock;split
   ·rfl
   ·split
    ·rfl
    ·split
     ·exact Iw _ _ _
     ·rfl
  ·exact Pj p
def KS (p:Sa_):∀ (l:List Sb_) (q:Sa_),(enterAll p q l).tok=q.tok
 | [],q=>rfl
 | b::l,q=>by have:=KS p l (enter1 p q b);refine this.trans ?_;unfold enter1;split<;>rfl
def Zi (p:Sa_) (a:Sb_):(enter p a).tok=p.tok:=by
 unfold enter;split
 ·exact AaM _ _
 ·exact KS p _ p
def Abm (p:Sa_):(stepTail p).1.tok=p.tok:=by
 unfold stepTail;split
 ·rfl
 ·split
  ·unfold tailDefer;split
   ·rfl
   ·split
    ·exact Iw _ _ _
    ·rfl
  ·split
   ·unfold tailEnter;split
    ·rfl
    ·exact Zi _ _
   ·split
    ·rfl
    ·exact AaM _ _
def RZ:∀ (n:Nat) (p:Sa_),(adv n p).tok=p.tok
 | 0,p=>rfl
 | n+1,p=>by
  rw[adv];split
  ·refine(RZ n _).trans ?_;unfold step1;split
   ·exact Wu p
   ·exact Abm p
  ·rfl
def UJ:∀ (l:List Sb_) (p:Sa_),(l.foldl askModule p).tok=p.tok
 | [],p=>rfl
 | b::l,p=>(UJ l (askModule p b)).trans (Aaw p b)
def N9 (p:Sa_) (a:Sb_) (x:Sd_):(takeAnswer p a x).tok=p.tok:=by
 refine(RZ 2000 _).trans ?_;unfold fillModule;split
 ·rfl
 ·exact UJ _ _
def AaC {all:List Sq_}:∀ {l:List Sq_} {k:Int},entOk all l k=true->∀ e,e∈l->Ae e.bd<=700
 | [],_,_,e,he=>by cases he
 | y::l,k,h,e,he=>Qf (J9 h e he)
def okNg (G:Nat) (n:Su_):Prop:=szL AY n.servers<=1048576/\szCache n.cache<=2097152/\(∀ e,e∈n.cache.bg->Ae e.bd<=1048576)/\szL DM n.log+2100000*G<=7000000000
def Wk {G:Nat} {n:Su_} (h:okNg G n):okNt n:=⟨by simp only[szNet];have:=h.1;have:=h.2.1;have:=h.2.2.2;omega,by have:=h.2.1;omega,h.1,h.2.2.1⟩
def Akc {G:Nat} {n:Su_} (h:okNg G n):okNk n:=⟨by simp only[szNet];have:=h.1;have:=h.2.2.2;omega,by have:=h.2.1;omega⟩
def JX {G:Nat} {n:Su_} (h:okNg (G+1) n):okNg G n:=⟨h.1,h.2.1,h.2.2.1,by have:=h.2.2.2;omega⟩
def keep_ng {G:Nat} {n:Su_} (h:okNg G n) (t:ByteArray) (a:Sb_) (x:Sd_):okNg G (keepAnswer n t a x):=by
 unfold keepAnswer;split
 ·refine⟨h.1,U0 n.cache t a x n.now h.2.1 o_,λe he=>?_,h.2.2.2⟩;have he:e∈(storeEntry n.cache t a x n.now).bg:=he;unfold storeEntry at he;split at he
  ·rename_i q;have q:=q.2.2.2;unfold isCache at q;rw[Qa2] at q;exact Qd7 (AaC q.1 e he) o_
  ·exact h.2.2.1 e he
 ·exact h
def Aed {G:Nat} {n:Su_} (h:okNg (G+1) n) {t:ByteArray} {a:Sb_} (g:Bool) (ht:t.size<=2097152) (ha:szAddr a<=16):okNg G (logSent n t a g):=by
 have h4:=h.2.2.2;unfold logSent;split
 ·refine⟨h.1,h.2.1,h.2.2.1,?_⟩;show szL DM (n.log++[⟨t,a,g⟩])+2100000*G<=7000000000;rw[Fb];simp only[DM];omega
 ·exact JX h
def Uk {G:Nat} {n:Su_} (h:okNg (G+1) n) {t:ByteArray} (a:Sb_) (g:Bool) (ht:t.size<=2097152):okNg G (fetchNow n t a g).1:=by
 unfold fetchNow;split
 ·exact JX h
 ·rename_i hn;split
  ·exact JX h
  ·have ha:szAddr a<=16:=by
    have e:(isName a.host&&isName a.path)=true:=by
     cases q:(isName a.host&&isName a.path) with
     | true=>rfl
     | false=>exact absurd (by first|exact q|(rw[q];rfl)|(simp[q])) hn
    rw[Qa2] at e;have a1:=Ht e.1;have a2:=Ht e.2;simp only[szAddr];omega
   dsimp only;split
   ·exact Aed h g ht ha
   ·exact keep_ng (Aed h g ht ha) _ _ _
def okL (G:Nat) (l:Sc_):Prop:=(∃ Q M R,okAll l.page Q M R/\Q+740000*l.conns.length+8000000*G<=889000000000/\M+600*wCs l.conns+250000*G<=48000000000/\R+20*wCs l.conns+10000*G<=18000000000)/\(Kp l.page/\l.page.addr.host.size<=2097152/\l.page.tok.rest.size+szL Ad l.parts<=2900000)/\(okCs l.conns/\l.conns.length<=1048576/\l.guesses.length+l.conns.length+G<=4194304/\okGs l.guesses)/\okNg G l.net
def GX {G:Nat} {l:Sc_} (h:okL (G+1) l):okL G l:=by
 obtain⟨⟨Q,M,R,h1,h2,h3,h4⟩,h5,⟨h6,h7,h8,h9⟩,h10⟩:=h;exact⟨⟨Q,M,R,h1,o_,o_,o_⟩,h5,⟨h6,h7,o_,h9⟩,JX h10⟩
def J7 {G:Nat} {l:Sc_} (h:okL G l):okAct l:=by
 obtain⟨⟨Q,M,R,h1,h2,h3,h4⟩,⟨k1,k2,k3⟩,⟨h6,h7,h8,h9⟩,h10⟩:=h;have hf:okFM l.page:=⟨Q,M,R,h1,o_,o_,o_⟩;have hp:=Dq (En hf);have hn:=Wk h10;have hl:=Ac Ad l.parts;refine⟨⟨⟨by have:=hn.1;omega,h7,o_⟩,k3,Q,M,R,h1,o_,o_,o_⟩,⟨⟨⟨hf,k1.1,o_⟩,k1.2.1,k1.2.2,o_⟩,⟨h7,h6⟩,⟨o_,h9⟩,hn⟩,⟨hn,⟨hp.1,λt ht=>?_,o_⟩,o_,h7,o_⟩,⟨⟨Q,M,R,h1,o_,o_,o_⟩,⟨h6,h7,o_⟩,Akc h10⟩,o_⟩;have:=h1.1.1 t ht;omega
def Afg {l:Sc_}:(arrPage l).addr=l.page.addr:=by
 unfold arrPage;have e:(arriveText l.page (l.parts.getD 0 default)).addr=l.page.addr:=by unfold arriveText;split<;>rfl
 split
 ·refine Eq.trans ?_ e;unfold endPage;split<;>rfl
 ·exact e
def Adg {G:Nat} {l:Sc_} (h:okL (G+1) l):okL G (arrivePart l).1:=by
 by_cases hp:l.parts.length=0
 ·rw[YW hp];exact GX h
 ·rw[Mv hp];obtain⟨⟨Q,M,R,h1,h2,h3,h4⟩,⟨k1,k2,k3⟩,⟨h6,h7,h8,h9⟩,h10⟩:=h;have hg:=drop_cons (l:=l.parts) (i:=0) o_;have hz:szL Ad l.parts=(l.parts.getD 0 default).size+1+szL Ad (l.parts.drop 1):=by have e:szL Ad l.parts=szL Ad (l.parts.drop 0):=rfl;rw[e,hg,Aw]
  obtain⟨a1,a2,a3⟩:=Aee h1 o_;have hk:Kp (arrPage l):=by
   unfold arrPage;split
   ·exact Aj6 (AiX k1 _)
   ·exact AiX k1 _
  have et:(advance (arrPage l)).tok=(arrPage l).tok:=RZ 2000 _;have ea:(advance (arrPage l)).addr=l.page.addr:=(Pu 2000 _).trans Afg;refine⟨⟨_,_,_,ND a2,by dsimp only;omega,by dsimp only;omega,by dsimp only;omega⟩,⟨AeR 2000 _ hk,by dsimp only;rw[ea];exact k2,by dsimp only;rw[et];omega⟩,⟨h6,h7,by dsimp only;omega,h9⟩,JX h10⟩
def YJ {l:List Sj_} {a:Sb_} {x:Sd_} {g:Bool} (h:okCs l) (ha:szAddr a<=4000000) (hx:Ae x<=1048576):okCs (openConn l a x g).1/\(openConn l a x g).1.length<=l.length+1/\((openConn l a x g).1.length<=3\/(openConn l a x g).1.length<=l.length)/\wCs (openConn l a x g).1<=wCs l+400:=by
 unfold openConn;split
 ·exact⟨h,Nat.le_succ _,.inr (Qa7 _),Qd6 _ _⟩
 ·rename_i q;refine⟨λc hc=>?_,by simp only[Qa3,Qa6,Qb7];omega,.inl (by simp only[Qa3,Qa6,Qb7];omega),?_⟩
  ·rcases Qb8.1 hc with q|q
   ·exact h c q
   ·rw[List.mem_singleton.1 q];exact⟨hx,ha⟩
  ·unfold wCs;simp only[List.map_append,Qc5,List.map_nil,List.sum_append,List.sum_cons,List.sum_nil];have:wB x<=400:=Nat.min_le_left _ _;omega
def Af5 {l:List Sl_} (h:okGs l) (a:Sb_):okGs (useGuess l a).1/\(useGuess l a).1.length=l.length:=by
 unfold useGuess;split
 ·exact⟨h,rfl⟩
 ·refine⟨λg hg=>?_,List.length_modify ..⟩;rcases JI hg with q|⟨z,h1,h2⟩
  ·exact h g q
  ·rw[h2];exact h z h1
def Xv {G:Nat} {l:Sc_} (h:okL (G+1) l):okL G (requestNext l).1:=by
 have hm:=GX h;obtain⟨⟨Q,M,R,h1,h2,h3,h4⟩,⟨k1,k2,k3⟩,⟨h6,h7,h8,h9⟩,h10⟩:=h;have hn:=Wk h10;unfold requestNext;split
 ·exact hm
 ·rename_i hk;have ht:=Aby (l:=l) k1.1 o_;split
  ·obtain⟨g1,g2⟩:=Af5 h9 (reqTo l);have hw:wB (useGuess l.guesses (reqTo l)).2.1<=400:=Nat.min_le_left _ _;have et:(takeAnswer l.page (reqTo l) (useGuess l.guesses (reqTo l)).2.1).tok=l.page.tok:=N9 ..;have ea:(takeAnswer l.page (reqTo l) (useGuess l.guesses (reqTo l)).2.1).addr=l.page.addr:=G9 ..;exact⟨⟨_,_,_,Kb h1 (reqTo l) (useGuess l.guesses (reqTo l)).2.1,by dsimp only;omega,by dsimp only;omega,by dsimp only;omega⟩,⟨Oj k1 _ _,by dsimp only;rw[ea];exact k2,by dsimp only;rw[et];exact k3⟩,⟨h6,h7,by dsimp only;omega,g1⟩,keep_ng (JX h10) _ _ _⟩
  ·split
   ·exact hm
   ·obtain⟨o1,o2,o3,o4⟩:=YJ (g:=false) h6 ht (Ez (t:=l.page.addr.host) (a:=reqTo l) (g:=false) hn);exact⟨⟨Q,M,R,h1,by dsimp only;omega,by dsimp only;omega,by dsimp only;omega⟩,⟨k1,k2,k3⟩,⟨o1,by dsimp only;omega,by dsimp only;omega,h9⟩,Uk h10 _ _ k2⟩
def Aey {G:Nat} {l:Sc_} (h:okL (G+1) l):∀ m:List Sb_,(∀ a,a∈m->szAddr a<=16)->okL G (nextGuess l m).1
 | [],_=>GX h
 | a::m,hm=>by
  rw[nextGuess];split
  ·exact Aey h m λb hb=>hm b (Qc7 _ hb)
  ·obtain⟨⟨Q,M,R,h1,h2,h3,h4⟩,⟨k1,k2,k3⟩,⟨h6,h7,h8,h9⟩,h10⟩:=h;have ha:=hm a Qe8;obtain⟨o1,o2,o3,o4⟩:=YJ (g:=true) h6 (show szAddr a<=4000000 from o_) (Ez (t:=l.page.addr.host) (a:=a) (g:=true) (Wk h10));exact⟨⟨Q,M,R,h1,by dsimp only;omega,by dsimp only;omega,by dsimp only;omega⟩,⟨k1,k2,k3⟩,⟨o1,by dsimp only;omega,by dsimp only;omega,h9⟩,Uk h10 _ _ k2⟩
def AfP {G:Nat} {l:Sc_} (h:okL (G+1) l):okL G (guessNext l).1:=by
 unfold guessNext;split
 ·exact GX h
 ·refine Aey h _ λa ha=>?_
  obtain⟨i,hi,he⟩:=List.mem_iff_getElem.1 ha;have:=F6 (p:=l.page) hi;rw[Qb0,Qa5 hi,he] at this;exact this
def Afj {l:List Sl_} {a:Sb_} {x:Sd_} (h:okGs l) (hx:Ae x<=1048576):okGs (addGuess l a x).1:=by
 unfold addGuess;split
 ·exact h
 ·intro g hg;rcases Qb8.1 hg with q|q
  ·exact h g q
  ·rw[List.mem_singleton.1 q];exact hx
def AbL {G:Nat} {l:Sc_} {k:Int} (h:okL G l) (h0:0<=k) (hk:k<l.conns.length):okL G (finish1 l k):=by
 obtain⟨⟨Q,M,R,h1,h2,h3,h4⟩,⟨k1,k2,k3⟩,⟨h6,h7,h8,h9⟩,h10⟩:=h;have c1:=Hs h0 hk;have c2:=Qe h0 hk;have c3:=UP h0 hk h6;have ha:=Kb h1 (l.conns.getD k.toNat default).to (l.conns.getD k.toNat default).bd;have hg:=UL l.guesses (l.conns.getD k.toNat default).to (l.conns.getD k.toNat default).bd;have hr:=(h6 _ (A8 (show k.toNat<l.conns.length from o_))).1;have hgo:=Afj (a:=(l.conns.getD k.toNat default).to) h9 hr;have et:(takeAnswer l.page (l.conns.getD k.toNat default).to (l.conns.getD k.toNat default).bd).tok=l.page.tok:=N9 ..;have ea:(takeAnswer l.page (l.conns.getD k.toNat default).to (l.conns.getD k.toNat default).bd).addr=l.page.addr:=G9 ..;unfold finish1 finishC;dsimp only;split
 ·split
  ·exact⟨⟨_,_,_,ha,by dsimp only;omega,by dsimp only;omega,by dsimp only;omega⟩,⟨Oj k1 _ _,by dsimp only;rw[ea];exact k2,by dsimp only;rw[et];exact k3⟩,⟨c3,by dsimp only;omega,by dsimp only;omega,h9⟩,keep_ng h10 _ _ _⟩
  ·exact⟨⟨_,_,_,ha,by dsimp only;omega,by dsimp only;omega,by dsimp only;omega⟩,⟨Oj k1 _ _,by dsimp only;rw[ea];exact k2,by dsimp only;rw[et];exact k3⟩,⟨c3,by dsimp only;omega,by dsimp only;omega,h9⟩,h10⟩
 ·split
  ·exact⟨⟨_,_,_,h1,by dsimp only;omega,by dsimp only;omega,by dsimp only;omega⟩,⟨k1,k2,k3⟩,⟨c3,by dsimp only;omega,by dsimp only;omega,hgo⟩,h10⟩
  ·exact⟨⟨_,_,_,h1,by dsimp only;omega,by dsimp only;omega,by dsimp only;omega⟩,⟨k1,k2,k3⟩,⟨c3,by dsimp only;omega,by dsimp only;omega,h9⟩,h10⟩
def Ad5 {G:Nat}:∀ (n:Nat) (l:Sc_),okL G l->okL G (xfer n l)
 | 0,l,h=>h
 | n+1,l,h=>by
  rw[xfer];split
  ·exact h
  ·have hd:=Ec l.conns 0 o_;exact Ad5 n _ (AbL h o_ o_)
def AhE {G:Nat} {l:Sc_} (h:okL G l) (b:Int):okL G (moved l b):=by
 obtain⟨⟨Q,M,R,h1,h2,h3,h4⟩,⟨k1,k2,k3⟩,⟨h6,h7,h8,h9⟩,h10⟩:=h;have e1:=Dn l.conns b;have e2:=AeE l.conns b;unfold moved;exact⟨⟨Q,M,R,h1,by dsimp only;omega,by dsimp only;omega,by dsimp only;omega⟩,⟨k1,k2,k3⟩,⟨Y1 b h6,by dsimp only;omega,by dsimp only;omega,h9⟩,h10⟩
def NL {G:Nat} {l:Sc_} (h:okL G l) (b:Int):okL G (transfer l b).1:=by
 unfold transfer;split
 ·exact h
 ·exact Ad5 _ _ (AhE h b)
def Ajh {G:Nat} {l:Sc_} (h:okL (G+1) l) (n:Int):okL G (actOf l n).1:=by
 unfold actOf;split
 ·exact Adg h
 ·split
  ·exact Xv h
  ·split
   ·exact AfP h
   ·split
    ·exact NL (GX h) 20
    ·exact NL (GX h) 200
def AaB {G:Nat} {l:Sc_} (h:okL (G+1) l) (c:Int):∀ n,okL G (stepR l c n).1
 | 0=>GX h
 | n+1=>by
  rw[stepR];split
  ·exact Ajh h _
  ·exact AaB h c n
def PZ {G:Nat} {l:Sc_} (h:okL (G+1) l) (c:Int):okL G (stepLoad l c).1:=AaB h c 5
def Air {l:Sc_} (h:CX l<=1048576) (b1 : -9223372036854775808<=l.page.block) (b2:l.page.block<=9223372036854775807):okL 1200 l:=by
 have hr:=AhK h b1 b2;obtain⟨⟨⟨_,q2,_⟩,_⟩,⟨q3,q4⟩,⟨q5,q6⟩,q7⟩:=hr;have c1:=Ac Cc l.conns;have c2:=Ac Bs l.guesses;have c4:=Aef l.conns;simp only[CX] at h;have hi:okAll l.page 2000000 1100000000 10000000:=Yx o_;have hh:l.page.addr.host.size+l.page.tok.rest.size<=szPage l.page:=by simp only[szPage,szAddr,Bo];omega
 refine⟨⟨_,_,_,hi,o_,o_,o_⟩,⟨⟨q2,b1,b2⟩,o_,o_⟩,⟨q4,q3,o_,q6⟩,q7.2.2.1,?_,q7.2.2.2,?_⟩
 ·simp only[szNet] at h;omega
 ·simp only[szNet] at h;omega
def finL (l:Sc_):Bool:=l.page.loaded&&decide (l.parts.length=0)
def stepTo (l:Sc_) (c:Int):Sc_:=(stepLoad l c).1
def runB:Nat->Sc_->Sc_
 | 0,l=>l
 | n+1,l=>if finL l=true then l else if(stepLoad l 0).2=true then runB n (stepTo l 0) else l
def runLoad (l:Sc_) (cs:List Int):Sc_:=runB 1000 ((cs.take 100).foldl stepTo l)
def W9 {G H:Nat} {l:Sc_} (h:okL H l) (hle:G<=H):okL G l:=by
 obtain⟨⟨Q,M,R,h1,h2,h3,h4⟩,h5,⟨h6,h7,h8,h9⟩,n1,n2,n3,n4⟩:=h;exact⟨⟨Q,M,R,h1,o_,o_,o_⟩,h5,⟨h6,h7,o_,h9⟩,n1,n2,n3,o_⟩
def Ia {G:Nat} {l:Sc_} (h:okL G l):szNet l.net<=68719476736/\szPage l.page<=1099511627776/\l.parts.length<=1000000000/\l.conns.length<=1048576/\l.guesses.length<=4194304:=Jz (J7 h).2.2.2.1 (J7 h).2.2.2.2
def Agm {cs:List Int} {i:Nat} {o T:Sc_} (h:((cs.take 100).drop i).foldl stepTo o=T) (hi:i<(cs.take 100).length):((cs.take 100).drop (i+1)).foldl stepTo (stepLoad o (cs.getD i default)).1=T:=by
 rw[drop_cons hi,Qg8] at h;have e:(cs.take 100).getD i default=cs.getD i default:=by rw[Qc0] at hi;rw[Qb0,Qb0,List.getElem?_take_of_lt o_]
 rw[e] at h;exact h
def Adr {cs:List Int} {i:Nat} {o T:Sc_} (h:((cs.take 100).drop i).foldl stepTo o=T) (hi:i<(cs.take 100).length):((cs.take 100).drop (i+1)).foldl stepTo (stepLoad o ((cs.take 100).getD i default)).1=T:=by
 rw[drop_cons hi,Qg8] at h;exact h
def Ui {cs:List Int} {i:Nat} {o T:Sc_} (h:((cs.take 100).drop i).foldl stepTo o=T) (hi:(cs.take 100).length<=i):o=T:=by
 rw[Qb2 hi] at h;exact h
def Um {l:Sc_} (h:finL l=true):∀ n,runB n l=l
 | 0=>rfl
 | n+1=>by rw[runB,Qa1 h]
def Zv {l:Sc_} (h:finL l=false) (h2:(stepLoad l 0).2=false):∀ n,runB n l=l
 | 0=>rfl
 | n+1=>by rw[runB,Qa4 (by rw[h];decide),Qa4 (by rw[h2];decide)]
def XB {l:Sc_} {n:Nat} (h:finL l=false) (h2:(stepLoad l 0).2=true):runB (n+1) l=runB n (stepLoad l 0).1:=by
 rw[runB,Qa4 (by rw[h];decide),Qa1 h2];rfl
def Ad9 {l T:Sc_} {i:Int} (h:runB (1000-i.toNat) l=T) (hi:1000<=i):l=T:=by
 rw[show 1000-i.toNat=0 from o_] at h;exact h
def AdV (cs:List Int):∀ {i:Decidable ((cs.length:Int)<100)},cut cs 0 ((@ite _ ((cs.length:Int)<100) i (cs.length:Int) 100).toNat-0)=cs.take 100:=by
 intro i;unfold cut;rw[Qf1];split
 ·rw[Qb1 o_,Qb1 o_]
 ·rfl
def EY:Fct:=⟨[.v (.el .loader),.v (.sl .int)],[.el .loader],λ(x_:Sc_×(List Int)×Unit)=>okL 1100 x_.1/\x_.2.1.length<=1048576,λ(x_:Sc_×(List Int)×Unit)=>(runLoad x_.1 x_.2.1,())⟩
abbrev Dy (l:Sc_) (cs:(List Int)):LInv:=⟨[⟨.b,5,true,.el .loader⟩,⟨.s,6,true,.el .int⟩,⟨.b,4,true,.el .loader⟩],λ(z_ x_:Sc_×Int×Sc_×Unit)=>(0<=x_.2.1/\x_.2.1<=(cs.take 100).length/\((cs.take 100).drop x_.2.1.toNat).foldl stepTo x_.1=(cs.take 100).foldl stepTo l/\okL (1100-x_.2.1.toNat) x_.1)/\x_.2.2.1=z_.2.2.1,λ(x_:Sc_×Int×Sc_×Unit)=>100-x_.2.1.toNat⟩
abbrev DB (l:Sc_) (cs:(List Int)):LInv:=⟨[⟨.b,5,true,.el .loader⟩,⟨.s,9,true,.el .int⟩,⟨.b,4,true,.el .loader⟩],λ(z_ x_:Sc_×Int×Sc_×Unit)=>(0<=x_.2.1/\x_.2.1<=1000/\runB (1000-x_.2.1.toNat) x_.1=runLoad l cs/\okL (1000-x_.2.1.toNat) x_.1)/\x_.2.2.1=z_.2.2.1,λ(x_:Sc_×Int×Sc_×Unit)=>1000-x_.2.1.toNat⟩
def Amd:=Amc.a EY<|Fct.p (KP [1,2,4,5,6,7,9,10,11] [21,40,49]) (λ⟨l,cs,_⟩=>λ|3=>some (Dy l cs)|8=>some (DB l cs)|_=>none) Amc.2 func29 (by
 rintro⟨(l:Sc_),(cs:List Int),_⟩ hp;refine ho (.cl fCopyLoader (l,()) λz2=>lpx (Dy l cs) (z2.1,((0:Int),(default,()))) λ(y2:Sc_×Int×Sc_×PUnit) bk2=>let q0_:=lpx (DB l cs) (y2.1,((0:Int),(y2.2.2.1,()))) λ(y8:Sc_×Int×Sc_×PUnit) bk8=>let q1_:Out:=.lf EY (y8.1,());.br (decide (y8.2.1<1000)) (.cl Co (y8.1,()) λz4=>.br (!z4.1) (.cl CV (y8.1,(0:Int),()) λz5=>.br (!z5.2.1) q1_ (.ob (Value.int IntKind.i64 y2.2.1=Value.int IntKind.i64 y2.2.1)<|.ob (cs=cs)<|.ob (bk8 (z5.1,(w1 y8.2.1,(y8.2.2.1,()))))<|.ok)) q1_) q1_;.br (decide (y2.2.1<(cs.length:Int))) (.br (decide (y2.2.1<100)) (.ob (inB y2.2.1 cs.length)<|.cl CV (y2.1,cs.getD y2.2.1.toNat default,()) λz3=>.ob (cs=cs)<|.ob (bk2 (z3.1,(w1 y2.2.1,(y2.2.2.1,()))))<|.ok) q0_) q0_) ?_;refine Af ?_ λ_=>(Aj ?_ λ(y2:Sc_×Int×Sc_×PUnit) i2=>Ab (λh3=>Ab (λh4=>Aa ?_ λ_=>Af ?_ λ_=>(Aa rfl λ_=>Aa ?_ λ_=>trivial)) (λh4=>Aj ?_ λ(y8:Sc_×Int×Sc_×PUnit) i8=>Ab (λh9=>Af trivial λ_=>(Ab (λh10=>Af ?_ λ_=>(Ab (λh12=>lfY ?_) (λh12=>Aa rfl λ_=>Aa rfl λ_=>Aa ?_ λ_=>trivial))) (λh10=>lfY ?_))) (λh9=>lfY ?_))) (λh3=>Aj ?_ λ(y14:Sc_×Int×Sc_×PUnit) i14=>Ab (λh15=>Af trivial λ_=>(Ab (λh16=>Af ?_ λ_=>(Ab (λh18=>lfY ?_) (λh18=>Aa rfl λ_=>Aa rfl λ_=>Aa ?_ λ_=>trivial))) (λh16=>lfY ?_))) (λh15=>lfY ?_)))
 all_goals obtain⟨q1,q2⟩:=(show okL 1100 l/\cs.length<=1048576 from hp)
 all_goals try simp only[Dy,DB,fCopyLoader,Co,EY,CV,std,Nat.reduceAdd] at *
 all_goals have hk:(cs.take 100).length=min 100 cs.length:=Qc0 ..
 all_goals first|trivial|omega|exact Ia q1|exact⟨o_,o_,rfl,q1⟩|exact⟨o_,o_,q1⟩|skip
 all_goals (obtain⟨⟨a1,a2,a3,a4⟩,e1⟩:=i2)
 all_goals first|omega|exact J7 a4|exact Ia a4|skip
 all_goals first|(rw[Ag o_,show(y2.2.1+1).toNat=y2.2.1.toNat+1 from o_];rw[show 1100-y2.2.1.toNat=1100-(y2.2.1.toNat+1)+1 from o_] at a4;exact⟨⟨⟨o_,o_,Agm a3 o_,PZ a4 _⟩,e1⟩,o_⟩)|skip
 all_goals have hT:=Ui a3 o_
 all_goals first|exact⟨o_,o_,(show runB 1000 _=_ by unfold runLoad;rw[<-hT]),W9 a4 o_⟩|skip
 all_goals first|(obtain⟨⟨b1,b2,b3,b4⟩,f1⟩:=i8;obtain⟨yo,yi,yz⟩:=y8)|(obtain⟨⟨b1,b2,b3,b4⟩,f1⟩:=i14;obtain⟨yo,yi,yz⟩:=y14)
 all_goals dsimp only at *
 all_goals first|omega|exact J7 b4|exact Ia b4|exact Ad9 b3 o_|(rw[Um ‹_›] at b3;exact b3)|(rw[Zv ‹_› ‹_›] at b3;exact b3)|skip
 all_goals rw[Ag o_,show(yi+1).toNat=yi.toNat+1 from o_]
 all_goals rw[show 1000-yi.toNat=1000-(yi.toNat+1)+1 from o_] at b3 b4
 all_goals rw[XB ‹_› ‹_›] at b3
 all_goals exact⟨⟨⟨o_,o_,b3,PZ b4 _⟩,f1⟩,o_⟩)
abbrev Dz (l:Sc_) (cs:(List Int)):LInv:=⟨[⟨.b,5,true,.el .loader⟩,⟨.s,19,true,.el .int⟩,⟨.b,4,true,.el .loader⟩],λ(z_ x_:Sc_×Int×Sc_×Unit)=>(0<=x_.2.1/\x_.2.1<=(cs.take 100).length/\((cs.take 100).drop x_.2.1.toNat).foldl stepTo x_.1=(cs.take 100).foldl stepTo l/\okL (1100-x_.2.1.toNat) x_.1)/\x_.2.2.1=z_.2.2.1,λ(x_:Sc_×Int×Sc_×Unit)=>100-x_.2.1.toNat⟩
abbrev Dx (l:Sc_) (cs:(List Int)):LInv:=⟨[⟨.b,5,true,.el .loader⟩,⟨.s,8,true,.el .int⟩,⟨.b,4,true,.el .loader⟩],λ(z_ x_:Sc_×Int×Sc_×Unit)=>(0<=x_.2.1/\x_.2.1<=1000/\runB (1000-x_.2.1.toNat) x_.1=runLoad l cs/\okL (1000-x_.2.1.toNat) x_.1)/\x_.2.2.1=z_.2.2.1,λ(x_:Sc_×Int×Sc_×Unit)=>1000-x_.2.1.toNat⟩
def Amk:=Amd.a EY<|Fct.p (KP [1,2,4,5,7,8,9,10,17,18,19] [20,36,45]) (λ⟨l,cs,_⟩=>λ|3=>some (Dz l cs)|8=>some (Dx l cs)|_=>none) Amd.2 func30 (by
 rintro⟨(l:Sc_),(cs:List Int),_⟩ hp;refine ho (let q2_:=(cs.length:Int);let q5_:=if q2_<100 then q2_ else(100:Int);let q0_:=q5_.toNat-0;let q6_:=cut cs 0 q0_=cut cs 0 q0_;let q1_:=(↑(cut cs 0 q0_).length:Int);let q3_:=Value.int IntKind.i64 q1_=Value.int IntKind.i64 q1_;.cl fCopyLoader (l,()) λz2=>.ob ((0<=if q2_<100 then q2_ else(100:Int))/\q5_<=q2_)<|lpx (Dz l cs) (z2.1,((0:Int),(default,()))) λ(y3:Sc_×Int×Sc_×PUnit) bk3=>.br (decide (y3.2.1<q1_)) (.ob (0<=y3.2.1/\y3.2.1<q1_)<|.cl CV (y3.1,(cut cs 0 q0_).getD y3.2.1.toNat default,()) λz3=>.ob (cs=cs)<|.ob q6_<|.ob q3_<|.ob (bk3 (z3.1,(w1 y3.2.1,(y3.2.2.1,()))))<|.ok) (lpx (Dx l cs) (y3.1,((0:Int),(y3.2.2.1,()))) λ(y8:Sc_×Int×Sc_×PUnit) bk8=>let q4_:Out:=.lf EY (y8.1,());.br (decide (y8.2.1<1000)) (.cl Co (y8.1,()) λz4=>.br (!z4.1) (.cl CV (y8.1,(0:Int),()) λz5=>.br (!z5.2.1) q4_ (.ob (Value.int IntKind.i64 y3.2.1=Value.int IntKind.i64 y3.2.1)<|.ob (cs=cs)<|.ob q6_<|.ob q3_<|.ob (bk8 (z5.1,(w1 y8.2.1,(y8.2.2.1,()))))<|.ok)) q4_) q4_)) ?_;refine Af ?_ λ_=>(Aa ?_ λ_=>Aj ?_ λ(y3:Sc_×Int×Sc_×PUnit) i3=>Ab (λh4=>Aa ?_ λ_=>Af ?_ λ_=>(Aa rfl λ_=>Aa rfl λ_=>Aa rfl λ_=>Aa ?_ λ_=>trivial)) (λh4=>Aj ?_ λ(y8:Sc_×Int×Sc_×PUnit) i8=>Ab (λh9=>Af trivial λ_=>(Ab (λh10=>Af ?_ λ_=>(Ab (λh12=>lfY ?_) (λh12=>Aa rfl λ_=>Aa rfl λ_=>Aa rfl λ_=>Aa rfl λ_=>Aa ?_ λ_=>trivial))) (λh10=>lfY ?_))) (λh9=>lfY ?_)))
 all_goals obtain⟨q1,q2⟩:=(show okL 1100 l/\cs.length<=1048576 from hp)
 all_goals
  try simp only[AdV] at *
  try simp only[Dz,Dx,fCopyLoader,Co,EY,CV,std,Nat.reduceAdd] at *
  try simp only[AdV] at *
 all_goals have hk:(cs.take 100).length=min 100 cs.length:=Qc0 ..
 all_goals first|trivial|omega|exact Ia q1|exact⟨o_,o_,rfl,q1⟩|exact⟨o_,o_,q1⟩|skip
 all_goals (obtain⟨⟨a1,a2,a3,a4⟩,e1⟩:=i3)
 all_goals first|omega|exact J7 a4|exact Ia a4|skip
 all_goals first|(rw[Ag o_,show(y3.2.1+1).toNat=y3.2.1.toNat+1 from o_];rw[show 1100-y3.2.1.toNat=1100-(y3.2.1.toNat+1)+1 from o_] at a4;exact⟨⟨⟨o_,o_,Adr a3 o_,PZ a4 _⟩,e1⟩,o_⟩)|skip
 all_goals have hT:=Ui a3 o_
 all_goals first|exact⟨o_,o_,(show runB 1000 _=_ by unfold runLoad;rw[<-hT]),W9 a4 o_⟩|skip
 all_goals first|(obtain⟨⟨b1,b2,b3,b4⟩,f1⟩:=i8;obtain⟨yo,yi,yz⟩:=y8)|(obtain⟨⟨b1,b2,b3,b4⟩,f1⟩:=i14;obtain⟨yo,yi,yz⟩:=y14)
 all_goals dsimp only at *
 all_goals first|omega|exact J7 b4|exact Ia b4|exact Ad9 b3 o_|(rw[Um ‹_›] at b3;exact b3)|(rw[Zv ‹_› ‹_›] at b3;exact b3)|skip
 all_goals rw[Ag o_,show(yi+1).toNat=yi.toNat+1 from o_]
 all_goals rw[show 1000-yi.toNat=1000-(yi.toNat+1)+1 from o_] at b3 b4
 all_goals rw[XB ‹_› ‹_›] at b3
 all_goals exact⟨⟨⟨o_,o_,b3,PZ b4 _⟩,f1⟩,o_⟩)
def wS (l:Sc_):Nat:=szL Cc l.conns+szL Bs l.guesses
def AfC (l:List Sl_) (a:Sb_):szL Bs (useGuess l a).1=szL Bs l:=by
 unfold useGuess;split
 ·rfl
 ·have key:∀ (m:List Sl_) (i:Nat),szL Bs (m.modify i λg=>{ g with used:=true })=szL Bs m:=by
   intro m
   induction m with
   | nil=>intro i;cases i<;>rfl
   | cons g m ih=>
    intro i;cases i with
    | zero=>show szL Bs (_::m)=_;rw[Aw,Aw];rfl
    | succ i=>show szL Bs (g::m.modify i _)=_;rw[Aw,Aw,ih]
  exact key _ _
def VP {G:Nat} {l:Sc_} (h:okL (G+1) l):wS (requestNext l).1<=wS l+5100000:=by
 obtain⟨⟨Q,M,R,h1,h2,h3,h4⟩,⟨k1,k2,k3⟩,⟨h6,h7,h8,h9⟩,h10⟩:=h;unfold requestNext;split
 ·exact Qd6 _ _
 ·rename_i hk;have ht:=Aby (l:=l) k1.1 o_;split
  ·have e:=AfC l.guesses (reqTo l);unfold wS;dsimp only;omega
  ·split
   ·exact Qd6 _ _
   ·have o:=ZH l.conns (reqTo l) (fetchNow l.net l.page.addr.host (reqTo l) false).2 false;have r:=Ez (t:=l.page.addr.host) (a:=reqTo l) (g:=false) (Wk h10);unfold wS;dsimp only;omega
def XJ {G:Nat} {l:Sc_} (h:okL (G+1) l):∀ m:List Sb_,(∀ a,a∈m->szAddr a<=16)->wS (nextGuess l m).1<=wS l+5100000
 | [],_=>Qd6 _ _
 | a::m,hm=>by
  rw[nextGuess];split
  ·exact XJ h m λb hb=>hm b (Qc7 _ hb)
  ·obtain⟨_,_,_,h10⟩:=h;have ha:=hm a Qe8;have o:=ZH l.conns a (fetchNow l.net l.page.addr.host a true).2 true;have r:=Ez (t:=l.page.addr.host) (a:=a) (g:=true) (Wk h10);unfold wS;dsimp only;omega
def Adv {G:Nat} {l:Sc_} (h:okL (G+1) l):wS (guessNext l).1<=wS l+5100000:=by
 unfold guessNext;split
 ·exact Qd6 _ _
 ·refine XJ h _ λa ha=>?_
  obtain⟨i,hi,he⟩:=List.mem_iff_getElem.1 ha;have:=F6 (p:=l.page) hi;rw[Qb0,Qa5 hi,he] at this;exact this
def YU:∀ (n:Nat) (l:Sc_),wS (xfer n l)<=wS l
 | 0,l=>Qa7 _
 | n+1,l=>by
  rw[xfer];split
  ·exact Qa7 _
  ·have hd:=Ec l.conns 0 o_;exact Qd7 (YU n _) (Aic o_ o_)
def Ll (l:Sc_) (b:Int):wS (transfer l b).1<=wS l:=by
 unfold transfer;split
 ·exact Qa7 _
 ·refine Qd7 (YU _ _) ?_;have:=Afi l.conns b;unfold wS moved;dsimp only;omega
def Aib {G:Nat} {l:Sc_} (h:okL (G+1) l) (n:Int):wS (actOf l n).1<=wS l+5100000:=by
 unfold actOf;split
 ·unfold arrivePart;split
  ·exact Qd6 _ _
  ·exact Qd6 _ _
 ·split
  ·exact VP h
  ·split
   ·exact Adv h
   ·split
    ·exact Qd7 (Ll l 20) (Qd6 _ _)
    ·exact Qd7 (Ll l 200) (Qd6 _ _)
def X1 {G:Nat} {l:Sc_} (h:okL (G+1) l) (c:Int):∀ n,wS (stepR l c n).1<=wS l+5100000
 | 0=>Qd6 _ _
 | n+1=>by
  rw[stepR];split
  ·exact Aib h _
  ·exact X1 h c n
def okW (G:Nat) (l:Sc_):Prop:=okL G l/\wS l+5100000*G<=10000000000
def Aew {G:Nat} {l:Sc_} (h:okW (G+1) l) (c:Int):okW G (stepLoad l c).1:=by
 have:=X1 h.1 c 5;have h2:=h.2;exact⟨PZ h.1 c,by unfold stepLoad;omega⟩
def AdU:∀ (cs:List Int) (G:Nat) (l:Sc_),okW (G+cs.length) l->okW G (cs.foldl stepTo l)
 | [],G,l,h=>h
 | c::cs,G,l,h=>by rw[Qg8];refine AdU cs G _ (Aew (G:=G+cs.length) ?_ c);rw[Qa6] at h;exact h
def US {G H:Nat} {l:Sc_} (h:okW H l) (hle:G<=H):okW G l:=⟨W9 h.1 hle,by have:=h.2;omega⟩
def AeD:∀ (n:Nat) (l:Sc_),okW n l->okW 0 (runB n l)
 | 0,l,h=>h
 | n+1,l,h=>by
  rw[runB];split
  ·exact US h o_
  ·split
   ·exact AeD n _ (Aew h 0)
   ·exact US h o_
def AjE {l:Sc_} (h:okW 1100 l) (cs:List Int):okW 0 (runLoad l cs):=by
 unfold runLoad;refine AeD 1000 _ (AdU _ _ _ (US h ?_));rw[Qc0];omega
def Aio {l:Sc_} (h:okW 0 l):CX l<=1125899906842624/\szNet l.net<=8000000000/\szPage l.page<=1000000000000:=by
 obtain⟨hl,hw⟩:=h;obtain⟨⟨Q,M,R,h1,h2,h3,h4⟩,⟨k1,k2,k3⟩,⟨h6,h7,h8,h9⟩,h10⟩:=hl;have hp:=H0 h1 o_ o_ o_;have hn:=(Wk h10).1;refine⟨?_,hn,hp⟩;unfold wS at hw;unfold CX;omega
def Aev {l:Sc_} (h:CX l<=1048576) (b1 : -9223372036854775808<=l.page.block) (b2:l.page.block<=9223372036854775807):okW 1100 l:=by
 refine US (H:=1200) ⟨Air h b1 b2,?_⟩ o_;unfold CX at h;unfold wS;omega
def AeQ (l:Sc_) (cs:List Int) (b1 : -9223372036854775808<=l.page.block) (b2:l.page.block<=9223372036854775807) (h:CX l<=1048576):okL 1100 l/\CX (runLoad l cs)<=1125899906842624:=⟨(Aev h b1 b2).1,(Aio (AjE (Aev h b1 b2) cs)).1⟩
def lRunLoad:Fct:=Aip [.el .loader,.sl .int]
theorem k5_451:lRunLoad.ok Tryz.prog 5:=Fct.o (KP [1,2,4,5,6,7,8,9,10,11,12,13] [16,21,37,42,47,61,69,72,81,86,89]) Amk.2 func5 (by
 rintro⟨(l:Sc_),(cs:List Int),_⟩ hp;refine ho (let q2_:Out:=.leaf (mkR lRunLoad.rs (true,())) [] [];let q1_:Out:=.leaf (mkR lRunLoad.rs (false,())) [] [];.br (decide ((↑(List.length cs):Int)>1048576)) q2_ (.cl Lk (l,(1048576:Int),()) λ(z2:Int×PUnit)=>.br (decide (z2.1<0)) q2_ (.cl Gv (l,()) λz3=>.cl HK (cs,()) λ(z4:List Int×PUnit)=>.cl EY (z3.1,z4.1,()) λz5=>.cl Gv (l,()) λz6=>.cl HK (cs,()) λ(z7:List Int×PUnit)=>.cl EY (z6.1,z7.1,()) λz8=>.cl GH (z8.1,z5.1,()) λz9=>.br (!z9.1) q1_ (.cl Gv (l,()) λz10=>.cl GH (z6.1,z10.1,()) λz11=>.br (!z11.1) q1_ (.cl HK (cs,()) λ(z12:List Int×PUnit)=>.cl IA (z7.1,z12.1,()) λz13=>.br (!z13.1) q1_ (.ob (ER.pre z6.1 (1:Int))<|.lt _ (ER.fn z6.1 (1:Int)) λz14=>.ob (Ju.pre z7.1 z14.2)<|.lt _ (Ju.fn z7.1 z14.2) λz15=>.br (decide (z15.2<0)) q1_ (.cl GH (z8.1,z5.1,()) λz16=>.br (!z16.1) q1_ (.ob (ER.pre z8.1 (1:Int))<|.lt _ (ER.fn z8.1 (1:Int)) λz17=>let q0_:=({z17.1 with net:=({z17.1.net with now:=z8.1.net.now}:Su_),page:=({z8.1.page with bj:=({z17.1.page.bj with set_:=z8.1.page.bj.set_,nonce:=z8.1.page.bj.nonce}:Si_),bn:=z17.1.page.bn,ba:=z17.1.page.ba,bf:=z17.1.page.bf,bh:=z17.1.page.bh,bg:=z17.1.page.bg,ran:=z17.1.page.ran,log:=z17.1.page.log}:Sa_)}:Sc_);.cl GM (q0_,(1:Int),()) λ(z18:Int×PUnit)=>.br (decide (z18.1<0)) q1_ (.br (z18.1 != z17.2) q1_ (.cl Gv (l,()) λz19=>.cl HK (cs,()) λ(z20:List Int×PUnit)=>.cl EY (z19.1,z20.1,()) λz21=>.cl GH (z21.1,z5.1,()) λz22=>.br (!z22.1) q1_ (.cl GM (q0_,(1:Int),()) λ(z23:Int×PUnit)=>.br (decide (z23.1<0)) q1_ (.br (z23.1 != z17.2) q1_ q2_)))))))))))) ?_;refine Ab (λh1=>Fct.leafY ?_) (λh1=>EO ?_ λo2 z2 ez2=>(Ab (λh3=>Fct.leafY ?_) (λh3=>EO ?_ λo4 z3 ez3=>(EO ?_ λo5 z4 ez4=>(EO ?_ λo6 z5 ez5=>(EO ?_ λo7 z6 ez6=>(EO ?_ λo8 z7 ez7=>(EO ?_ λo9 z8 ez8=>(EO ?_ λo10 z9 ez9=>(Ab (λh11=>Fct.leafY ?_) (λh11=>EO ?_ λo12 z10 ez10=>(EO ?_ λo13 z11 ez11=>(Ab (λh14=>Fct.leafY ?_) (λh14=>EO ?_ λo15 z12 ez12=>(EO ?_ λo16 z13 ez13=>(Ab (λh17=>Fct.leafY ?_) (λh17=>Aa ?_ λ_=>Ajt λz14 ez14=>(Aa ?_ λ_=>Ajt λz15 ez15=>(Ab (λh20=>Fct.leafY ?_) (λh20=>EO ?_ λo21 z16 ez16=>(Ab (λh22=>Fct.leafY ?_) (λh22=>Aa ?_ λ_=>Ajt λz17 ez17=>(EO ?_ λo24 z18 ez18=>(Ab (λh25=>Fct.leafY ?_) (λh25=>Ab (λh26=>Fct.leafY ?_) (λh26=>EO ?_ λo27 z19 ez19=>(EO ?_ λo28 z20 ez20=>(EO ?_ λo29 z21 ez21=>(EO ?_ λo30 z22 ez22=>(Ab (λh31=>Fct.leafY ?_) (λh31=>EO ?_ λo32 z23 ez23=>(Ab (λh33=>Fct.leafY ?_) (λh33=>Ab (λh34=>Fct.leafY ?_) (λh34=>Fct.leafY ?_))))))))))))))))))))))))))))))))));all_goals
  have hlw:=λa b=>AeQ l cs a b
  have hg0:Sh.good (.el .loader) l:=hp.1;have hg1:Sh.good (.sl .int) cs:=hp.2.1;have hI0:=AjZ (l.page.block) hg0 (by simp[enc]);clear hp;try have hbd0:=MV z6.fst (1:Int)
  try have hbd1:=Q4 z7.fst z14.snd
  try have hbd2:=MV z8.fst (1:Int)
 all_goals subst_vars
 all_goals
  try simp only[Hq] at *
  try simp only[EY,IA,GH,GM,Ju,ER,Lk,HK,Gv,lRunLoad,std,Nat.reduceAdd,szF,toF,eqF,mkF,heF,decide_true] at *
  try simp only[mkIntS_idem,mkIntS_ub] at *
  try simp only[RY] at *
 all_goals first|trivial|omega|grind[lessen])
def Aqf:=Amk.a lRunLoad k5_451
section
open Go.ChangeShapes Go.WideShapes Go.ChangeAt Go.RowKit
theorem rfB:(Tryz.f5.params.toList.all λt=>Tryz.prog.readableRec t&&decide (t<Tryz.prog.types.size))=true:=by kernel_rfl
theorem rfC:Nm Tryz.prog tyOf Tryz.f5.params.toList [.el .loader,.sl .int]=true:=by kernel_rfl
theorem rfD:Amq Tryz.prog tyOf [3,4,5,9,25,28,30,37,40,41,44,46,50,55,68,69,73,78,82,87,144,148,150,158,162,170,174,177,191,193,196,208,211,221,234,243,246,248,252,256,259,268,298,319,366,451,458,482]=true:=by kernel_rfl
theorem rowFacts:AgA Tryz.prog Tryz.f5 tyOf [3,4,5,9,25,28,30,37,40,41,44,46,50,55,68,69,73,78,82,87,144,148,150,158,162,170,174,177,191,193,196,208,211,221,234,243,246,248,252,256,259,268,298,319,366,451,458,482] [.el .loader,.sl .int]=true:=by unfold AgA;rw[rfA,rfB,rfC,rfD];rfl
end
end Go.Proofs.YtmeicddakaciiaaGreatDoor.fnExactRunLoad
