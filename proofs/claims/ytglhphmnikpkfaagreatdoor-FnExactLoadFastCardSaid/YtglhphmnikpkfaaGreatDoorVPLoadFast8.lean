/- Contracts, part 8. -/
import Derived.Test.YtglhphmnikpkfaaGreatDoorVPLoadFast4
import Derived.Test.YtglhphmnikpkfaaGreatDoorVPLoadFast7
namespace Go.Proofs.YtglhphmnikpkfaaGreatDoor.fnExactLoadFast
open Go.Proofs.YtglhphmnikpkfaaGreatDoor
open Go.D Go.Proofs.Tryz
set_option maxRecDepth 100000
set_option maxHeartbeats 2000000
set_option linter.defProp false
set_option linter.unusedVariables false
set_option linter.unusedSimpArgs false
def AiZ:=AlE.a Bu<|Fct.p (KP [1,2,3,5,7,10,11,12,24,25,26] [13,27]) (λ⟨p,_⟩=>λ|3=>some (CN p)|8=>some (CR p)|_=>none) AlE.2 func227 (by
 rintro⟨(p:Sa_),_⟩ hp;refine ho (.cl Bv (p,()) λ(z2:List Int×PUnit)=>let q1_:=(z2.1.length:Int);let q0_:=Value.int IntKind.i64 q1_=Value.int IntKind.i64 q1_;lpx (CN p) ([],((0:Int),(p,(z2.1,())))) λ(y2:List Sf_×Int×Sa_×List Int×PUnit) bk2=>.br (decide (y2.2.1<q1_)) (.ob (inB y2.2.1 y2.2.2.2.1.length)<|.ob (y2.2.1.toNat<y2.2.2.2.1.length)<|.cl Aw (y2.2.2.1,y2.2.2.2.1.getD y2.2.1.toNat default,()) λz3=>.ob (True)<|.ob (Br (y2.1.length+[z3.1].length) 72)<|.ob q0_<|.ob (bk2 (y2.1++[z3.1],(w1 y2.2.1,(y2.2.2.1,(y2.2.2.2.1,())))))<|.ok) (.cl Cc (y2.2.2.1,()) λ(z4:List Int×PUnit)=>let q2_:=(z4.1.length:Int);lpx (CR p) (y2.1,((0:Int),(y2.2.2.1,(z4.1,())))) λ(y10:List Sf_×Int×Sa_×List Int×PUnit) bk10=>.br (decide (y10.2.1<q2_)) (.ob (inB y10.2.1 y10.2.2.2.1.length)<|.ob (y10.2.1.toNat<y10.2.2.2.1.length)<|.cl AE (y10.2.2.1,y10.2.2.2.1.getD y10.2.1.toNat default,()) λz5=>.ob (True)<|.ob (Br (y10.1.length+[z5.1].length) 72)<|.ob (Value.int IntKind.i64 y2.2.1=Value.int IntKind.i64 y2.2.1)<|.ob q0_<|.ob (Value.int IntKind.i64 q2_=Value.int IntKind.i64 q2_)<|.ob (bk10 (y10.1++[z5.1],(w1 y10.2.1,(y10.2.2.1,(y10.2.2.2.1,())))))<|.ok) (.lf Bu (y10.1,())))) ?_;refine Ae ?_ λ_=>(Ai ?_ λ(y2:List Sf_×Int×Sa_×List Int×PUnit) i2=>Ab (λh3=>Aa ?_ λ_=>Aa ?_ λ_=>Ae ?_ λ_=>(Aa trivial λ_=>Aa ?_ λ_=>Aa rfl λ_=>Aa ?_ λ_=>trivial)) (λh3=>Ae ?_ λ_=>(Ai ?_ λ(y10:List Sf_×Int×Sa_×List Int×PUnit) i10=>Ab (λh11=>Aa ?_ λ_=>Aa ?_ λ_=>Ae ?_ λ_=>(Aa trivial λ_=>Aa ?_ λ_=>Aa rfl λ_=>Aa rfl λ_=>Aa rfl λ_=>Aa ?_ λ_=>trivial)) (λh11=>lfY ?_))))
 all_goals
  have hl1:(openSlots p).length<=p.bf.length:=D1 _ _ _;have hl2:(openMods p).length<=p.bh.length:=D1 _ _ _;try simp only[Hv] at *
  try simp only[CN,CR,AE,Bu,Cc,Bv,Aw,std,Nat.reduceAdd] at *
 all_goals first|trivial|omega|exact⟨o_,o_,by simp,rfl⟩|skip
 all_goals (obtain⟨⟨⟨a1,a2,a3,a4⟩,e1⟩,e2⟩:=i2;simp only[e1,e2] at *)
 all_goals first|trivial|omega|skip
 all_goals try (obtain⟨⟨⟨b1,b2,b3,b4⟩,f1⟩,f2⟩:=i10;simp only[f1,f2] at *)
 all_goals first|trivial|omega|skip
 all_goals first|(have ho:=TU (p:=p) (i:=y10.2.1.toNat) o_)|(have ho:=T3 (p:=p) (i:=y2.2.1.toNat) o_)|skip
 all_goals first|exact⟨o_,o_,o_⟩|skip
 all_goals first|(rw[Ky (modRequest p) (l:=openMods p) (i:=y10.2.1.toNat) o_] at b4;rw[Qd3] at b4;exact b4)|(rw[N9 (modRequest p) (l:=openMods p) (i:=y10.2.1.toNat) o_] at b4;rw[Ag o_,show(y10.2.1+1).toNat=y10.2.1.toNat+1 from o_];exact⟨⟨⟨⟨o_,o_,by simp only[Qa4,Qa6,Qb7];omega,by rw[Qb4];exact b4⟩,by trivial⟩,by trivial⟩,o_⟩)|(rw[N9 (slotRequest p) (l:=openSlots p) (i:=y2.2.1.toNat) o_] at a4;rw[Ag o_,show(y2.2.1+1).toNat=y2.2.1.toNat+1 from o_];exact⟨⟨⟨⟨o_,o_,by simp only[Qa4,Qa6,Qb7];omega,by rw[Qb4];exact a4⟩,by trivial⟩,by trivial⟩,o_⟩)|(rw[Ky (slotRequest p) (l:=openSlots p) (i:=y2.2.1.toNat) o_] at a4;rw[Qd3] at a4;exact⟨o_,o_,o_,by rw[a4];rfl⟩)|skip)
def busyOf (l:List Sj_):List Sb_:=l.map λc=>c.to
def Vd:Fct:=⟨[.v (.sl .conn)],[.sl .addr],λ(x_:(List Sj_)×Unit)=>x_.1.length<=1048576,λ(x_:(List Sj_)×Unit)=>(busyOf x_.1,())⟩
abbrev Ea (l:(List Sj_)):LInv:=⟨[⟨.s,3,true,.sl .addr⟩,⟨.s,4,true,.el .int⟩],λ_ (x_:(List Sb_)×Int×Unit)=>0<=x_.2.1/\x_.2.1<=l.length/\x_.1.length<=x_.2.1/\x_.1++busyOf (l.drop x_.2.1.toNat)=busyOf l,λ(x_:(List Sb_)×Int×Unit)=>l.length-x_.2.1.toNat⟩
def Ak0:=AiZ.a Vd<|Fct.p (KP [0,2,3,4] [9]) (λ⟨l,_⟩=>lv [(3,Ea l)]) AiZ.2 func188 (by
 rintro⟨(l:List Sj_),_⟩ hp;refine ho (lpx (Ea l) ([],((0:Int),())) λ(y1:List Sb_×Int×PUnit) bk1=>.br (decide (y1.2.1<(l.length:Int))) (.ob (inB y1.2.1 l.length)<|.ob (True)<|.ob (Br (y1.1.length+[(l.getD y1.2.1.toNat default).to].length) 32)<|.ob (l=l)<|.ob (bk1 (y1.1++[(l.getD y1.2.1.toNat default).to],(w1 y1.2.1,())))<|.ok) (.lf Vd (y1.1,()))) ?_;refine Ai ?_ λ(y1:List Sb_×Int×PUnit) i1=>Ab (λh2=>Aa ?_ λ_=>Aa trivial λ_=>Aa ?_ λ_=>Aa rfl λ_=>Aa ?_ λ_=>trivial) (λh2=>lfY ?_)
 all_goals try simp only[Ea,Vd,std,Nat.reduceAdd,busyOf] at *
 all_goals first|trivial|omega|skip
 all_goals (obtain⟨a1,a2,a3,a4⟩:=i1)
 all_goals first|(rw[Ky (λc:Sj_=>c.to) (l:=l) (i:=y1.2.1.toNat) o_,Qd3] at a4;exact a4)|(rw[N9 (λc:Sj_=>c.to) (l:=l) (i:=y1.2.1.toNat) o_] at a4;rw[Ag o_,show(y1.2.1+1).toNat=y1.2.1.toNat+1 from o_];exact⟨⟨o_,o_,by simp only[Qa4,Qa6,Qb7];omega,by rw[Qb4];exact a4⟩,o_⟩))
def reqNeeds (l:Sc_):List Sf_:=withoutAddrs (busyOf l.conns) (nextNeeds l.page)
def reqPick (l:Sc_):Int:=pickReq l.page (reqNeeds l) 0 (-1) 0
def reqTo (l:Sc_):Sb_:=((reqNeeds l).getD (reqPick l).toNat default).to
def requestNext (l:Sc_):Sc_×Bool :=
 if reqPick l<0 then(l,false)
 else if(useGuess l.guesses (reqTo l)).2.2=true then
  ({ l with guesses:=(useGuess l.guesses (reqTo l)).1,net:=keepAnswer l.net l.page.addr.host (reqTo l) (useGuess l.guesses (reqTo l)).2.1,page:=takeAnswer l.page (reqTo l) (useGuess l.guesses (reqTo l)).2.1 },true)
 else if 3<=l.conns.length then(l,false)
 else({ l with net:=(fetchNow l.net l.page.addr.host (reqTo l) false).1,conns:=(openConn l.conns (reqTo l) (fetchNow l.net l.page.addr.host (reqTo l) false).2 false).1 },true)
def okGs (l:List Sp_):Prop:=∀ g,g∈l->Ad g.bd<=1048576
def okCs (l:List Sj_):Prop:=∀ c,c∈l->Ad c.bd<=1048576/\szAddr c.to<=4000000
def okTo (p:Sa_):Prop:=(∀ s,s∈p.bf->szAddr s.to<=4000000)/\∀ m,m∈p.bh->szAddr m.to<=4000000
def okRN (l:Sc_):Prop:=((okFM l.page/\okTo l.page/\l.parts.length<=1000000000)/\-9223372036854775808<=l.page.block/\l.page.block<=9223372036854775807/\l.page.bf.length+l.page.bh.length<=1000000000000)/\(l.conns.length<=1048576/\okCs l.conns)/\(l.guesses.length<=4194304/\okGs l.guesses)/\okNt l.net
def FB (p:Sa_):(nextNeeds p).length<=p.bf.length+p.bh.length:=by
 have h1:(openSlots p).length<=p.bf.length:=D1 _ _ _;have h2:(openMods p).length<=p.bh.length:=D1 _ _ _;unfold nextNeeds;rw[Qa4,Qe9,Qe9];omega
def OG {d:List Sb_} {r:Sf_}:∀ {l:List Sf_},r∈withoutAddrs d l->r∈l
 | [],h=>h
 | x::l,h=>by
  rw[withoutAddrs] at h;split at h
  ·exact Qc4 _ (OG h)
  ·rcases Qd6.1 h with q|q
   ·rw[q];exact Qd7
   ·exact Qc4 _ (OG q)
def AbK {p:Sa_} {r:Sf_} (h:r∈nextNeeds p):(∃ s,s∈p.bf/\r.to=s.to)\/∃ m,m∈p.bh/\r.to=m.to:=by
 unfold nextNeeds at h;rcases Qb8.1 h with q|q
 ·obtain⟨k,hk,rfl⟩:=Qg6.1 q;have:=FH (λs:Sn_=>!s.done) p.bf 0 k hk;left;refine⟨p.bf.getD k.toNat default,A7 o_,?_⟩;unfold slotRequest;rw[Qa1 o_]
 ·obtain⟨k,hk,rfl⟩:=Qg6.1 q;have:=FH (λm:Sg_=>!m.done) p.bh 0 k hk;right;refine⟨p.bh.getD k.toNat default,A7 o_,?_⟩;rw[Lw o_ o_]
def JP (p:Sa_):∀ (l:List Sf_) (i b c:Int),-1<=b->b<i->-1<=pickReq p l i b c/\pickReq p l i b c<i+l.length
 | [],i,b,c,h1,h2=>by
  rw[pickReq];simp only[Qb7];omega
 | r::l,i,b,c,h1,h2=>by
  rw[pickReq,Qa6];split
  ·have:=JP p l (i+1) i (classOf p r) o_ o_;omega
  ·have:=JP p l (i+1) b c h1 o_;omega
def rn1 (l:Sc_):withoutAddrs (busyOf l.conns) (nextNeeds l.page)=reqNeeds l:=rfl
def rn2 (l:Sc_):pickReq l.page (reqNeeds l) 0 (-1) 0=reqPick l:=rfl
def rn3 (l:Sc_):((reqNeeds l).getD (reqPick l).toNat default).to=reqTo l:=rfl
def Ad9 (l:Sc_) : -1<=reqPick l/\reqPick l<(reqNeeds l).length:=by
 have:=JP l.page (reqNeeds l) 0 (-1) 0 o_ o_;unfold reqPick;omega
def AaZ {l:Sc_} (h:okTo l.page) (h0:0<=reqPick l):szAddr (reqTo l)<=4000000:=by
 have hi:=(Ad9 l).2;have hm:(reqNeeds l).getD (reqPick l).toNat default∈nextNeeds l.page:=OG (A7 (show(reqPick l).toNat<(reqNeeds l).length from o_));unfold reqTo;rcases AbK hm with⟨s,hs,e⟩|⟨m,hm2,e⟩
 ·rw[e];exact h.1 s hs
 ·rw[e];exact h.2 m hm2
def Xn {l:List Sp_} {a:Sb_} (h:okGs l):Ad (useGuess l a).2.1<=1048576:=by
 unfold useGuess;split
 ·exact(show Ad notFound<=1048576 by decide)
 ·rename_i hc;have hf:=EY (λg:Sp_=>decide (g.to=a)) l 0 o_;have:(findGuess l a).toNat<l.length:=by unfold findGuess at *;omega
  exact h _ (A7 this)
def Aep {l:List Sj_} {i:Nat} (h:i<l.length):busyOf (l.drop i)=(l.getD i default).to::busyOf (l.drop (i+1)):=N9 (λc:Sj_=>c.to) h
def AaX {l:List Sj_} {i:Nat} (h:l.length<=i):busyOf (l.drop i)=[]:=Ky (λc:Sj_=>c.to) h
def BL:Fct:=⟨[.v (.el .loader)],[.el .loader,.el .bool],λ(x_:Sc_×Unit)=>okRN x_.1,λ(x_:Sc_×Unit)=>((requestNext x_.1).1,(requestNext x_.1).2,())⟩
def Amd:=Ak0.a BL<|Fct.o (KP [1,2,3,4,5,6,7,8,9,10,11,12,13] [28,47,67]) Ak0.2 func150 (by
 rintro⟨(l:Sc_),_⟩ hp;refine ho (.cl fCopyLoader (l,()) λz2=>let q1_:Out:=.lf BL (z2.1,false,());.cl Bu (l.page,()) λz3=>.cl Vd (l.conns,()) λz4=>.cl BF (z3.1,z4.1,()) λz5=>.cl B8 (l.page,z5.1,()) λ(z6:Int×PUnit)=>let q0_:=z5.1.getD z6.1.toNat default;.br (decide (z6.1<0)) q1_ (.ob (inB z6.1 z5.1.length)<|.ob (z6.1.toNat<z5.1.length)<|.cl Dp (l.guesses,q0_.to,()) λz7=>.br (z7.2.2.1) (.cl fKeepAnswer (l.net,l.page.addr.host,q0_.to,z7.2.1,()) λz8=>.cl A4 (l.page,q0_.to,z7.2.1,()) λz9=>.lf BL (⟨z8.1,z9.1,z2.1.parts,z2.1.conns,z7.1⟩,true,())) (.br (decide ((l.conns.length:Int)>=3)) q1_ (.cl fFetchNow (l.net,l.page.addr.host,q0_.to,false,()) λz10=>.cl fOpen (l.conns,q0_.to,z10.2.1,false,()) λz11=>.lf BL ({z2.1 with net:=z10.1,conns:=z11.1},true,()))))) ?_;repeat' (guard_target =~ Out.holds _ _;first|refine lfY ?_|refine Ab (λ_=>?_) λ_=>?_|refine Ae ?_ λ_=>?_|refine Aa ?_ λ_=>?_)
 all_goals obtain⟨⟨⟨q1,qt,qp⟩,q2,q3,q4⟩,⟨q5,q6⟩,⟨q7,q8⟩,q9⟩:=(show okRN l from hp)
 all_goals
  have hok:=Do (Ev q1);have hh:l.page.addr.host.size<=4000000:=by have:=hok.2.1;simp only[szAddr] at this;omega
  have hn:=FB l.page;have hb:(busyOf l.conns).length=l.conns.length:=Qe9 ..;have hw:=Hr (busyOf l.conns) (nextNeeds l.page);have hk:=Ad9 l;have ht:=λh=>AaZ (l:=l) qt h
  have hu:=Xn (a:=reqTo l) q8;have hf:=EF (t:=l.page.addr.host) (a:=reqTo l) (g:=false) q9
 all_goals obtain⟨n1,n2,n3,n4⟩:=q9
 all_goals
  try simp only[Hv] at *
  try simp only[Vd,fCopyLoader,fFetchNow,fKeepAnswer,Bu,fOpen,B8,BL,A4,Dp,BF,std,Nat.reduceAdd,rn1,rn2,rn3] at *
 all_goals first|trivial|omega|skip
 all_goals first|exact⟨o_,o_,o_,o_,o_⟩|exact⟨o_,o_⟩|exact⟨o_,⟨o_,o_⟩,o_⟩|skip
 all_goals
  have hs1:(useGuess l.guesses (reqTo l)).2.1.body.size+(useGuess l.guesses (reqTo l)).2.1.bj.size<=1048576:=hu;have hs2:(fetchNow l.net l.page.addr.host (reqTo l) false).2.body.size+(fetchNow l.net l.page.addr.host (reqTo l) false).2.bj.size<=1048576:=hf
 all_goals first|exact⟨q1,o_,o_,o_⟩|exact⟨o_,o_⟩|skip
 all_goals unfold requestNext
 all_goals first|(rw[Qa1 ‹_›];exact⟨rfl,rfl⟩)|(rw[Qa3 o_])
 all_goals first|(rw[Qa1 ‹_›];exact⟨rfl,rfl⟩)|(rw[Qa3 (by rw[show(useGuess l.guesses (reqTo l)).2.2=false from ‹_›];decide)])
 all_goals first|(rw[Qa1 o_];exact⟨rfl,rfl⟩)|(rw[Qa3 o_];exact⟨rfl,rfl⟩)|skip)
abbrev BZ (l:Sc_):LInv:=⟨[⟨.s,5,true,.sl .addr⟩,⟨.s,23,true,.el .int⟩,⟨.b,1,false,.el .loader⟩,⟨.b,2,true,.el .loader⟩,⟨.b,4,true,.el .loader⟩],λ(z_ x_:(List Sb_)×Int×Sc_×Sc_×Sc_×Unit)=>(((0<=x_.2.1/\x_.2.1<=l.conns.length/\x_.1.length<=x_.2.1/\x_.1++busyOf (l.conns.drop x_.2.1.toNat)=busyOf l.conns)/\x_.2.2.1=z_.2.2.1)/\x_.2.2.2.1=z_.2.2.2.1)/\x_.2.2.2.2.1=z_.2.2.2.2.1,λ(x_:(List Sb_)×Int×Sc_×Sc_×Sc_×Unit)=>l.conns.length-x_.2.1.toNat⟩
def AlH:=Amd.a BL<|Fct.p (KP [1,2,3,4,5,7,8,9,10,11,12,13,14,15,16,21,22,23] [24,43,62,82]) (λ⟨l,_⟩=>lv [(4,BZ l)]) Amd.2 func172 (by
 rintro⟨(l:Sc_),_⟩ hp;refine ho (let q1_:=(l.conns.length:Int);.cl fCopyLoader (l,()) λz2=>lpx (BZ l) ([],((0:Int),(l,(default,(z2.1,()))))) λ(y2:List Sb_×Int×Sc_×Sc_×Sc_×PUnit) bk2=>let q3_:=l.conns.getD y2.2.1.toNat default;let q2_:Out:=.lf BL (y2.2.2.2.2.1,false,());.br (decide (y2.2.1<q1_)) (.ob (inB y2.2.1 l.conns.length)<|.ob (True)<|.ob (Br (y2.1.length+[q3_.to].length) 32)<|.ob (l.conns=l.conns)<|.ob (Value.int IntKind.i64 q1_=Value.int IntKind.i64 q1_)<|.ob (bk2 (y2.1++[q3_.to],(w1 y2.2.1,(y2.2.2.1,(y2.2.2.2.1,(y2.2.2.2.2.1,()))))))<|.ok) (.cl Bu (y2.2.2.1.page,()) λz3=>.cl BF (z3.1,y2.1,()) λz4=>.cl B8 (y2.2.2.1.page,z4.1,()) λ(z5:Int×PUnit)=>let q0_:=z4.1.getD z5.1.toNat default;.br (decide (z5.1<0)) q2_ (.ob (inB z5.1 z4.1.length)<|.ob (z5.1.toNat<z4.1.length)<|.cl Dp (y2.2.2.1.guesses,q0_.to,()) λz6=>.br (z6.2.2.1) (.cl fKeepAnswer (y2.2.2.2.2.1.net,y2.2.2.1.page.addr.host,q0_.to,z6.2.1,()) λz7=>.cl A4 (y2.2.2.2.2.1.page,q0_.to,z6.2.1,()) λz8=>.lf BL (⟨z7.1,z8.1,y2.2.2.2.2.1.parts,y2.2.2.2.2.1.conns,z6.1⟩,true,())) (.br (decide ((y2.2.2.1.conns.length:Int)>=3)) q2_ (.cl fFetchNow (y2.2.2.2.2.1.net,y2.2.2.1.page.addr.host,q0_.to,false,()) λz9=>.cl fOpen (y2.2.2.2.2.1.conns,q0_.to,z9.2.1,false,()) λz10=>.lf BL ({y2.2.2.2.2.1 with net:=z9.1,conns:=z10.1},true,())))))) ?_;refine Ae ?_ λ_=>(Ai ?_ λ(y2:List Sb_×Int×Sc_×Sc_×Sc_×PUnit) i2=>Ab (λh3=>Aa ?_ λ_=>Aa trivial λ_=>Aa ?_ λ_=>Aa rfl λ_=>Aa rfl λ_=>Aa ?_ λ_=>trivial) (λh3=>Ae ?_ λ_=>(Ae ?_ λ_=>(Ae ?_ λ_=>(Ab (λh10=>lfY ?_) (λh10=>Aa ?_ λ_=>Aa ?_ λ_=>Ae ?_ λ_=>(Ab (λh14=>Ae ?_ λ_=>(Ae ?_ λ_=>(lfY ?_))) (λh14=>Ab (λh17=>lfY ?_) (λh17=>Ae ?_ λ_=>(Ae ?_ λ_=>(lfY ?_)))))))))))
 all_goals obtain⟨⟨⟨q1,qt,qp⟩,q2,q3,q4⟩,⟨q5,q6⟩,⟨q7,q8⟩,q9⟩:=(show okRN l from hp)
 all_goals
  have hok:=Do (Ev q1);have hh:l.page.addr.host.size<=4000000:=by have:=hok.2.1;simp only[szAddr] at this;omega
  have hn:=FB l.page;have hb:(busyOf l.conns).length=l.conns.length:=Qe9 ..;have hw:=Hr (busyOf l.conns) (nextNeeds l.page);have hk:=Ad9 l;have ht:=λh=>AaZ (l:=l) qt h
  have hu:=Xn (a:=reqTo l) q8;have hf:=EF (t:=l.page.addr.host) (a:=reqTo l) (g:=false) q9
 all_goals obtain⟨n1,n2,n3,n4⟩:=q9
 all_goals
  try simp only[Hv] at *
  try simp only[BZ,fCopyLoader,fFetchNow,fKeepAnswer,Bu,fOpen,B8,BL,A4,Dp,BF,std,Nat.reduceAdd,rn1,rn2,rn3] at *
 all_goals first|trivial|omega|skip
 all_goals (obtain⟨⟨⟨⟨a1,a2,a3,a4⟩,e1⟩,e2⟩,e3⟩:=i2;simp only[e1,e3] at *)
 all_goals first|trivial|omega|(rw[Aep (l:=l.conns) (i:=y2.2.1.toNat) o_] at a4;rw[Ag o_,show(y2.2.1+1).toNat=y2.2.1.toNat+1 from o_];exact⟨⟨⟨⟨⟨o_,o_,by simp only[Qa4,Qa6,Qb7];omega,by rw[Qb4];exact a4⟩,by trivial⟩,e2⟩,by trivial⟩,o_⟩)|(have he:y2.1=busyOf l.conns:=by rw[AaX (l:=l.conns) (i:=y2.2.1.toNat) o_,Qd3] at a4;exact a4)
 all_goals simp only[he,rn1,rn2,rn3] at *
 all_goals first|trivial|omega|skip
 all_goals first|exact⟨o_,o_,o_,o_,o_⟩|exact⟨o_,o_⟩|exact⟨o_,⟨o_,o_⟩,o_⟩|skip
 all_goals
  have hs1:(useGuess l.guesses (reqTo l)).2.1.body.size+(useGuess l.guesses (reqTo l)).2.1.bj.size<=1048576:=hu;have hs2:(fetchNow l.net l.page.addr.host (reqTo l) false).2.body.size+(fetchNow l.net l.page.addr.host (reqTo l) false).2.bj.size<=1048576:=hf
 all_goals first|exact⟨q1,o_,o_,o_⟩|exact⟨o_,o_⟩|skip
 all_goals unfold requestNext
 all_goals first|(rw[Qa1 ‹_›];exact⟨rfl,rfl⟩)|(rw[Qa3 o_])
 all_goals first|(rw[Qa1 ‹_›];exact⟨rfl,rfl⟩)|(rw[Qa3 (by rw[show(useGuess l.guesses (reqTo l)).2.2=false from ‹_›];decide)])
 all_goals first|(rw[Qa1 o_];exact⟨rfl,rfl⟩)|(rw[Qa3 o_];exact⟨rfl,rfl⟩)|skip)
def Z2 (l:List Sj_) (a:Sb_) (x:Sd_) (g:Bool):szL FV (openConn l a x g).1<=szL FV l+(szAddr a+Ad x+1):=by
 unfold openConn;split
 ·simp only;omega
 ·simp only;rw[Fi];simp only[FV];omega
def Ge (p:Sa_) (m:Int) (to d:ByteArray) (n:Int):(addSlot p m to d n).1.addr=p.addr:=by unfold addSlot;split<;>rfl
def T2 (p:Sa_) (a:Sb_):(askModule p a).addr=p.addr:=by unfold askModule;split<;>rfl
def Px (p:Sa_) (to:ByteArray):(addEntry p to).addr=p.addr:=by
 unfold addEntry;split
 ·exact T2 p _
 ·rfl
def Q3 (p:Sa_) (t:Sh_) (n:Int):(element p t n).addr=p.addr:=by
 unfold element;split
 ·exact Ge ..
 ·split
  ·exact Ge ..
  ·rfl
def Tu (p:Sa_) (n:Int):(script p n).addr=p.addr:=by
 unfold script;split
 ·split<;>rfl
 ·split
  ·exact Ge ..
  ·split
   ·exact Px ..
   ·exact Ge p ..
def Uc (p:Sa_) (s:ByteArray):(say p s).addr=p.addr:=by unfold say;split<;>rfl
def Hy (p:Sa_) (c:ByteArray) (w:Bool):(runCode p c w).addr=p.addr:=by unfold runCode;split<;>rfl
def Nu (p:Sa_):(takeToken p).1.addr=p.addr:=by
 unfold takeToken;split
 ·rfl
 ·show(takeTok p _).addr=_;unfold takeTok;split
  ·exact Q3 _ _ _
  ·split
   ·exact Tu _ _
   ·rfl
def Sz (p:Sa_):(stepParser p).1.addr=p.addr:=by
 unfold stepParser;split
 ·unfold stepInline;split
  ·exact Hy _ _ _
  ·rfl
 ·split
  ·unfold stepBlock;split
   ·rfl
   ·split
    ·rfl
    ·split
     ·exact Hy _ _ _
     ·rfl
  ·exact Nu p
def Jj (p:Sa_):∀ (l:List Sb_) (q:Sa_),(enterAll p q l).addr=q.addr
 | [],q=>rfl
 | b::l,q=>by have:=Jj p l (enter1 p q b);refine this.trans ?_;unfold enter1;split<;>rfl
def WT (p:Sa_) (a:Sb_):(enter p a).addr=p.addr:=by
 unfold enter;split
 ·exact Uc _ _
 ·exact Jj p _ p
def Xy (p:Sa_):(stepTail p).1.addr=p.addr:=by
 unfold stepTail;split
 ·rfl
 ·split
  ·unfold tailDefer;split
   ·rfl
   ·split
    ·exact Hy _ _ _
    ·rfl
  ·split
   ·unfold tailEnter;split
    ·rfl
    ·exact WT _ _
   ·split
    ·rfl
    ·exact Uc _ _
def Pg:∀ (n:Nat) (p:Sa_),(adv n p).addr=p.addr
 | 0,p=>rfl
 | n+1,p=>by
  rw[adv];split
  ·refine(Pg n _).trans ?_;unfold step1;split
   ·exact Sz p
   ·exact Xy p
  ·rfl
def RI:∀ (l:List Sb_) (p:Sa_),(l.foldl askModule p).addr=p.addr
 | [],p=>rfl
 | b::l,p=>(RI l (askModule p b)).trans (T2 p b)
def Hh (p:Sa_) (a:Sb_) (x:Sd_):(takeAnswer p a x).addr=p.addr:=by
 refine(Pg 2000 _).trans ?_;unfold fillModule;split
 ·rfl
 ·exact RI _ _
def AaB:Fct:=⟨[.v (.el .request),.p (.el .conn)],[.el .bool],λ(x_:Sf_×Sj_×Unit)=>True,λ(x_:Sf_×Sj_×Unit)=>(decide (x_.1.to=x_.2.1.to),())⟩
def AmG:=AlH.a AaB<|Fct.o [1,2,3] AlH.2 func241 (by
 rintro⟨(r:Sf_),(c:Sj_),_⟩ hp;refine ho (.lf AaB (r.to.host==c.to.host&&(r.to.path==c.to.path&&true),())) ?_;refine lfY ?_;all_goals
  try simp only[Dh] at *
  try simp only[AaB,std,Nat.reduceAdd] at *
  try simp(disch:=omega) only[wrapId',toNat1] at *
  try simp(disch:=omega) only[Qa1,Qa3]
 all_goals first|trivial|omega|grind[wrapId',toNat1,drop_cons,drop_end,good_len,maxLen])
def AF:Fct:=⟨[aL .request,.c 241 [.el .conn]],[rI],λx=>x.1.length<=1000000000000000000/\∀ c,AaB.pre (c,x.2.1),λx=>(fidx (λc=>(AaB.fn (c,x.2.1)).1) x.1 0,())⟩
abbrev Ah (l:(List Sf_)) (u:(Sj_×Unit)):LInv:=⟨[⟨.s,8,true,.el .int⟩],λ_ (x_:Int×Unit)=>0<=x_.1/\x_.1<=l.length/\fidx (λc=>(AaB.fn (c,u)).1) l 0=fidx (λc=>(AaB.fn (c,u)).1) (l.drop x_.1.toNat) x_.1,λ(x_:Int×Unit)=>l.length-x_.1.toNat⟩
def Aj4:=AmG.a AF<|Fct.p (KP [0,1,4,5,7,8] [9,16]) (λ⟨l,u,_⟩=>lv [(2,Ah l u)]) AmG.2 func303 (by
 rintro⟨(l:List Sf_),(u:Sj_×PUnit),_⟩ hp;refine ho (lpx (Ah l u) ((0:Int),()) λ(y1:Int×PUnit) bk1=>.br (decide (y1.1<(l.length:Int))) (.ob (inB y1.1 l.length)<|.cl AaB (l.getD y1.1.toNat default,u.1,()) λz2=>.br (z2.1) (.lf AF (y1.1,())) (.ob (l=l)<|.ob (enc Ty.conn u.1=enc Ty.conn u.1)<|.ob (Value.int IntKind.i64 (l.length:Int)=Value.int IntKind.i64 (l.length:Int))<|.ob (bk1 (w1 y1.1,()))<|.ok)) (.lf AF ((-1:Int),()))) ?_;refine Ai ?_ λ(y1:Int×PUnit) i1=>Ab (λh2=>Aa ?_ λ_=>Ae trivial λ_=>(Ab (λh4=>lfY ?_) (λh4=>Aa rfl λ_=>Aa rfl λ_=>Aa rfl λ_=>Aa ?_ λ_=>trivial))) (λh2=>lfY ?_)
 all_goals
  try simp only[Ah,AF,AaB,std,Nat.reduceAdd] at *
  try have hp2:=hp.2
  try have hp1:=hp.1
 all_goals first|trivial|omega|grind[wrapId',toNat1,drop_cons,drop_end,good_len,maxLen,fidx])
def AJ:Fct:=⟨[aL .request,.c 241 [.el .conn]],[rB],λx=>x.1.length<=1000000000000000000/\∀ c,AaB.pre (c,x.2.1),λx=>(x.1.any (λc=>(AaB.fn (c,x.2.1)).1),())⟩
def Al9:=Aj4.a AJ<|Fct.o [0,1,4] Aj4.2 func240 (by
 rintro⟨(l:List Sf_),(u:Sj_×PUnit),_⟩ hp;refine ho (.cl AF (l,(u.1,()),()) λ(z2:Int×PUnit)=>.lf AJ (decide (z2.1>=0),())) ?_;refine Ae ?_ λ_=>(lfY ?_)
 all_goals try simp only[AJ,AF,std,Nat.reduceAdd] at *
 all_goals first|trivial|omega|(rw[Bool.eq_iff_iff];exact decide_eq_true_iff.trans (IQ _ _ _ o_)))
def needsTo (p:Sa_) (a:Sb_):Bool:=(nextNeeds p).any λr=>decide (r.to=a)
def finishC (l:Sc_) (c:Sj_):Sc_ :=
 if needsTo l.page c.to=true then(if c.guess=true then{ l with net:=keepAnswer l.net l.page.addr.host c.to c.bd,page:=takeAnswer l.page c.to c.bd } else{ l with page:=takeAnswer l.page c.to c.bd })
 else if c.guess=true then{ l with guesses:=(addGuess l.guesses c.to c.bd).1 } else l
def finish1 (l:Sc_) (k:Int):Sc_:=finishC { l with conns:=closeConn l.conns k } (l.conns.getD k.toNat default)
def okFin (l:Sc_):Prop:=(okFM l.page/\l.page.bf.length+l.page.bh.length<=1000000000000)/\(l.conns.length<=1048576/\okCs l.conns)/\l.guesses.length<=4194304/\szNet l.net<=10000000000/\szCache l.net.cache<=90000000
def Agr {α:Type} [Inhabited α] (f:α->Bool) {l:List α} {i:Nat} (h:i<l.length):(l.drop i).any f=(f (l.getD i default)||(l.drop (i+1)).any f):=by rw[drop_cons h];rfl
def Acs {α:Type} (f:α->Bool) {l:List α} {i:Nat} (h:l.length<=i):(l.drop i).any f=false:=by rw[Qb1 h];rfl
def FR:GS:=⟨[.g (.el .loader),.l (.v (.el .int))],[.el .loader],λ(x_:Sc_×Int×Unit)=>okFin x_.1/\0<=x_.2.1/\x_.2.1<x_.1.conns.length,λ(x_:Sc_×Int×Unit)=>((finish1 x_.1 x_.2.1,()),(()))⟩
abbrev Ca (l:Sc_) (k:Int):LInv:=⟨[⟨.s,7,true,.el .int⟩,⟨.b,2,true,.el .loader⟩,⟨.b,4,true,.el .loader⟩,⟨.b,5,true,.el .conn⟩,⟨.s,6,true,.sl .request⟩],λ_ (x_:Int×Sc_×Sc_×Sj_×(List Sf_)×Unit)=>x_.2.1={ l with conns:=closeConn l.conns k }/\x_.2.2.2.1=l.conns.getD k.toNat default/\x_.2.2.2.2.1=nextNeeds l.page/\0<=x_.1/\x_.1<=(nextNeeds l.page).length/\((nextNeeds l.page).drop x_.1.toNat).any (λr=>decide (r.to=(l.conns.getD k.toNat default).to))=needsTo l.page (l.conns.getD k.toNat default).to,λ(x_:Int×Sc_×Sc_×Sj_×(List Sf_)×Unit)=>(nextNeeds l.page).length-x_.1.toNat⟩
def Ame:=Al9.G FR<|GS.of (S:=FR) (L:=λ⟨l,k,_⟩=>λ|5=>some (Ca l k)|_=>none) (kp:=(KP [1,2,4,5,6,7] [24,34,36,59])) Al9.2 func200 k_ k_ (by
 rintro⟨(l:Sc_),(k:Int),_⟩ hp;refine ho (.ob (inB k l.conns.length)<|.ob (k.toNat<l.conns.length)<|.cl Cd (l.conns,k,()) λz2=>.cl Bu (l.page,()) λz3=>lpx (Ca l k) ((0:Int),(({l with conns:=z2.1}:Sc_),(default,(l.conns.getD k.toNat default,(z3.1,()))))) λ(y5:Int×Sc_×Sc_×Sj_×List Sf_×PUnit) bk5=>let q0_:=y5.2.2.2.2.1.getD y5.1.toNat default;.br (decide (y5.1<(y5.2.2.2.2.1.length:Int))) (.ob (inB y5.1 y5.2.2.2.2.1.length)<|.ob (y5.1.toNat<y5.2.2.2.2.1.length)<|.br (q0_.to.host==y5.2.2.2.1.to.host&&(q0_.to.path==y5.2.2.2.1.to.path&&true)) (.br (y5.2.2.2.1.guess) (.cl fKeepAnswer (y5.2.1.net,y5.2.1.page.addr.host,y5.2.2.2.1.to,y5.2.2.2.1.bd,()) λz4=>.cl A4 (y5.2.1.page,y5.2.2.2.1.to,y5.2.2.2.1.bd,()) λz5=>GS.out FR (({y5.2.1 with net:=z4.1,page:=z5.1},()),(()))) (.cl A4 (y5.2.1.page,y5.2.2.2.1.to,y5.2.2.2.1.bd,()) λz6=>GS.out FR (({y5.2.1 with page:=z6.1},()),(())))) (.ob (Value.int IntKind.i64 k=Value.int IntKind.i64 k)<|.ob (bk5 (w1 y5.1,(y5.2.1,(y5.2.2.1,(y5.2.2.2.1,(y5.2.2.2.2.1,()))))))<|.ok)) (.br (y5.2.2.2.1.guess) (.cl CT (y5.2.1.guesses,y5.2.2.2.1.to,y5.2.2.2.1.bd,()) λz7=>GS.out FR (({y5.2.1 with guesses:=z7.1},()),(()))) (GS.out FR ((y5.2.1,()),(()))))) ?_;repeat' first|(guard_target =~ Out.holds _ _;first|refine Ai (li:=Ca l k) ?_ λ(y5:Int×Sc_×Sc_×Sj_×List Sf_×PUnit) i5=>?_|refine GS.leafY ?_|refine Ab (λ_=>?_) λ_=>?_|refine Ae ?_ λ_=>?_|refine Aa ?_ λ_=>?_)|exact trivial
 all_goals obtain⟨⟨⟨q1,q2⟩,⟨q3,q4⟩,q5,q6,q7⟩,q8,q9⟩:=(show okFin l/\0<=k/\k<l.conns.length from hp)
 all_goals
  try simp only[Hv] at *
  try simp only[Ca,CT,Cd,FR,fKeepAnswer,Bu,A4,std,Nat.reduceAdd] at *
 all_goals first|trivial|omega|exact⟨o_,o_,rfl⟩|skip
 all_goals
  have hc:=q4 _ (A7 (show k.toNat<l.conns.length from o_));have hc1:(l.conns.getD k.toNat default).bd.body.size+(l.conns.getD k.toNat default).bd.bj.size<=1048576:=hc.1;have hok:=Do (Ev q1);have hn:=FB l.page;have hh:l.page.addr.host.size<=4000000:=by have:=hok.2.1;simp only[szAddr] at this;omega
 all_goals (obtain⟨e1,e2,e3,a1,a2,a3⟩:=i5;simp only[e1,e2,e3,Dh,Qa9,Qa8] at *)
 all_goals first|trivial|omega|exact⟨o_,o_,o_,o_,o_⟩|exact⟨q1,o_,o_,o_⟩|skip
 all_goals first|(have e:=Agr (λr:Sf_=>decide (r.to=(l.conns.getD k.toNat default).to)) (l:=nextNeeds l.page) (i:=y5.1.toNat) o_)|(have e:=Acs (λr:Sf_=>decide (r.to=(l.conns.getD k.toNat default).to)) (l:=nextNeeds l.page) (i:=y5.1.toNat) o_)
 all_goals rw[a3] at e
 all_goals first|(rw[show decide (((nextNeeds l.page).getD y5.1.toNat default).to=(l.conns.getD k.toNat default).to)=false from Qg5 ‹_›,Bool.false_or] at e;rw[Ag o_,show(y5.1+1).toNat=y5.1.toNat+1 from o_];exact⟨⟨trivial,trivial,trivial,o_,o_,e.symm⟩,o_⟩)|skip
 all_goals first|(rw[show decide (((nextNeeds l.page).getD y5.1.toNat default).to=(l.conns.getD k.toNat default).to)=true from Qf1 ‹_›,Bool.true_or] at e)|skip
 all_goals first|(have hg:(l.conns.getD k.toNat default).guess=true:=by assumption)|(have hg:(l.conns.getD k.toNat default).guess=false:=by assumption)|skip
 all_goals (unfold finish1 finishC;dsimp only;simp only[e,hg,Qd4,Qf0,Qe5]))
def FM {s:ByteArray} (h:isName s=true):s.size<=8:=by
 unfold isName at h;simp only[Qa2,Qa9] at h;exact h.2.2
def Zr (p:Si_):(formatPolicy p).size<=300:=by
 unfold formatPolicy;split
 ·rename_i h;simp only[Qa2] at h;obtain⟨a1,a2,a3,a4,a5,a6,a7⟩:=F9 h.1 h.2;have b1:=G7 p.bp ⟨#[115,99,114,105,112,116]⟩ a1;have b2:=G7 p.styles ⟨#[115,116,121,108,101]⟩ a3;have b3:=G7 p.images ⟨#[105,109,103]⟩ a5;have c1:(⟨#[115,99,114,105,112,116]⟩:ByteArray).size=6:=rfl;have c2:(⟨#[115,116,121,108,101]⟩:ByteArray).size=5:=rfl;have c3:(⟨#[105,109,103]⟩:ByteArray).size=3:=rfl;have c4:(⟨#[59]⟩:ByteArray).size=1:=rfl;have c5:(⟨#[59,110,111,110,99,101,32]⟩:ByteArray).size=7:=rfl;split<;>(simp only[Qb3];omega)
 ·exact Nat.zero_le _
def Ju {x:Sd_} (h:isResponse x=true):Ad x<=700:=by
 unfold isResponse at h;simp only[Qa2,Qa9] at h;obtain⟨_,_,h1,_,h2⟩:=h;have h3:x.bj.size<=300:=by
  unfold parsePolicy at h2;split at h2
  ·rename_i e;rw[e];exact Nat.zero_le _
  ·split at h2
   ·rename_i e;rw[<-e.2];exact Zr _
   ·cases h2
 simp only[Ad];omega
def UG {all:List Sq_}:∀ {l:List Sq_} {k:Int},entOk all l k=true->szL AM l<=800*l.length
 | [],_,_=>Qa7 _
 | e::l,k,h=>by simp only[entOk,Qa2] at h;obtain⟨⟨⟨⟨⟨h1,h2,h3⟩,h4⟩,_⟩,_⟩,h5⟩:=h;have a1:=FM h1;have a2:=FM h2;have a3:=FM h3;have a4:=Ju h4;have a5:=UG h5;rw[Av,Qa6];simp only[AM,szAddr];omega
def WR {c:Sl_} (h:isCache c=true):szCache c<=80000:=by
 unfold isCache at h;simp only[Qa2,Qa9] at h;have:=UG h.1;simp only[szCache];omega
def UV (c:Sl_) (t:ByteArray) (a:Sb_) (x:Sd_) (now:Int) {B:Nat} (h:szCache c<=B) (hB:80000<=B):szCache (storeEntry c t a x now)<=B:=by
 unfold storeEntry;split
 ·rename_i q;exact Qd8 (WR q.2.2.2) hB
 ·exact h
def okNk (n:Ss_):Prop:=szNet n<=szCache n.cache+9000000000/\szCache n.cache<=90000000
def keep_okNk {n:Ss_} (h:okNk n) (t:ByteArray) (a:Sb_) (x:Sd_):okNk (keepAnswer n t a x):=by
 unfold keepAnswer;split
 ·have:=UV n.cache t a x n.now h.2 o_;refine⟨?_,this⟩;have h1:=h.1;simp only[szNet] at *;omega
 ·exact h
def wB (x:Sd_):Nat:=min 400 x.body.size
def wCs (l:List Sj_):Nat:=(l.map λc=>wB c.bd).sum
def Yq (p:Si_) (r:Sf_) (x:Sd_):(usable p r x).1.size<=wB x:=by
 have h1:=Jk p r x;have h2:(usable p r x).1.size<=x.body.size:=by
  unfold usable;split
  ·exact Qa7 _
  ·exact Nat.zero_le _
 unfold wB;omega
def Nt {p:Sa_} {Q M R:Nat} (h:okAll p Q M R) (a:Sb_) (x:Sd_):okAll (fillModule p a x) Q (M+600*wB x) (R+20*wB x):=by
 have mono:∀ {q:Sa_} {M' R':Nat},okAll q Q M' R'->M'<=M+600*wB x->R'<=R+20*wB x->okAll q Q (M+600*wB x) (R+20*wB x):=λh hM hR=>by obtain⟨h1,h2,h3,⟨h4,h5,h6,h7⟩,h8⟩:=h;exact⟨h1,h2,h3,⟨h4,o_,o_,h7⟩,h8⟩
 unfold fillModule;split
 ·exact mono h o_ o_
 ·rename_i hc;have h0:0<=findMod p.bh a:=o_
  have hd:(p.bh.getD (findMod p.bh a).toNat default).done=false:=by
   cases hq:(p.bh.getD (findMod p.bh a).toNat default).done with
   | false=>rfl
   | true=>exact absurd (.inr hq) hc
  obtain⟨i1,_⟩:=KB (x:=x) h0;have i2:(imports (fillM0 p a x) a).1.length<=wB x:=by
   obtain⟨_,h2⟩:=EE (fillM0 p a x) a;obtain⟨f1,f2⟩:=Hl p a x h0;rw[f1,f2] at h2;rcases h2 with h2|⟨_,h2⟩
   ·rw[h2];exact Nat.zero_le _
   ·exact Qd8 h2 (Yq ..)
  exact mono (SY _ _ M R (Na h a x h0 hd) i1) o_ o_
def JY {p:Sa_} {Q M R:Nat} (h:okAll p Q M R) (a:Sb_) (x:Sd_):okAll (takeAnswer p a x) (Q+740000) (M+600*wB x) (R+20*wB x):=by
 have:=Mv h a x p.bf.length;rw[Ih (Qa7 _)] at this;exact Ol (Nt this a x)
def okPot (l:Sc_):Prop:=∃ Q M R,okAll l.page Q M R/\Q+740000*l.conns.length<=899000000000/\M+600*wCs l.conns<=49000000000/\R+20*wCs l.conns<=19000000000
def okT (l:Sc_):Prop:=okPot l/\(okCs l.conns/\l.conns.length<=1048576/\l.guesses.length+l.conns.length<=4194304)/\okNk l.net
def R3 {l:Sc_} (h:okT l):okFin l:=by
 obtain⟨⟨Q,M,R,h1,h2,h3,h4⟩,⟨h5,h6a,h6⟩,h7,h8⟩:=h;have hf:okFM l.page:=⟨Q,M,R,h1,o_,o_,o_⟩;have hp:=Do (Ev hf);exact⟨⟨hf,o_⟩,⟨o_,h5⟩,o_,o_,h8⟩
def Lj {l:List Sj_} {k:Int} (h0:0<=k) (h:k<l.length):closeConn l k=l.take k.toNat++l.drop (k.toNat+1):=by unfold closeConn;rw[Qa1 ⟨h0,h⟩]
def HK {l:List Sj_} {k:Int} (h0:0<=k) (h:k<l.length):(closeConn l k).length+1=l.length:=by
 rw[Lj h0 h,Qa4,Qc0,Qe3];omega
def Rn {l:List Sj_} {k:Int} (h0:0<=k) (h:k<l.length):wCs (closeConn l k)+wB (l.getD k.toNat default).bd=wCs l:=by
 have e:l.take k.toNat++l.getD k.toNat default::l.drop (k.toNat+1)=l:=by rw[<-drop_cons (show k.toNat<l.length from o_),Qd2]
 have g:wCs (l.take k.toNat++l.getD k.toNat default::l.drop (k.toNat+1))=wCs l:=by rw[e]
 rw[Lj h0 h];unfold wCs at *
 simp only[List.map_append,Qc7,List.sum_append,List.sum_cons] at *
 omega
def AbT {l:List Sj_} {k:Int} (h0:0<=k) (h:k<l.length):szL FV (closeConn l k)+(FV (l.getD k.toNat default)+1)=szL FV l:=by
 have e:l.take k.toNat++l.getD k.toNat default::l.drop (k.toNat+1)=l:=by rw[<-drop_cons (show k.toNat<l.length from o_),Qd2]
 have g:szL FV (l.take k.toNat++l.getD k.toNat default::l.drop (k.toNat+1))=szL FV l:=by rw[e]
 rw[Lj h0 h];rw[C4,Av] at g;rw[C4];omega
def UE {l:List Sj_} {k:Int} (h0:0<=k) (h:k<l.length) (ho:okCs l):okCs (closeConn l k):=by
 rw[Lj h0 h];intro c hc;rcases Qb8.1 hc with q|q
 ·exact ho c (List.mem_of_mem_take q)
 ·exact ho c (List.mem_of_mem_drop q)
def UR (l:List Sp_) (a:Sb_) (x:Sd_):(addGuess l a x).1.length<=l.length+1:=by
 unfold addGuess;split
 ·exact Nat.le_succ _
 ·simp only[Qa4,Qa6,Qb7];omega
def AeZ (l:List Sp_) (a:Sb_) (x:Sd_):szL EV (addGuess l a x).1<=szL EV l+(szAddr a+Ad x+1):=by
 unfold addGuess;split
 ·simp only;omega
 ·simp only;rw[Fi];simp only[EV];omega
def Rc (l:Sc_) (k:Int):(finish1 l k).conns=closeConn l.conns k:=by
 unfold finish1 finishC;split
 ·split<;>rfl
 ·split<;>rfl
def Ack {l:Sc_} {k:Int} (h:okT l) (h0:0<=k) (hk:k<l.conns.length):okT (finish1 l k):=by
 obtain⟨⟨Q,M,R,h1,h2,h3,h4⟩,⟨h5,h6a,h6⟩,h7⟩:=h;have c1:=HK h0 hk;have c2:=Rn h0 hk;have c3:=UE h0 hk h5;have ha:=JY h1 (l.conns.getD k.toNat default).to (l.conns.getD k.toNat default).bd;have hg:=UR l.guesses (l.conns.getD k.toNat default).to (l.conns.getD k.toNat default).bd;unfold finish1 finishC;dsimp only;split
 ·split
  ·exact⟨⟨_,_,_,ha,by dsimp only;omega,by dsimp only;omega,by dsimp only;omega⟩,⟨c3,by dsimp only;omega,by dsimp only;omega⟩,keep_okNk h7 _ _ _⟩
  ·exact⟨⟨_,_,_,ha,by dsimp only;omega,by dsimp only;omega,by dsimp only;omega⟩,⟨c3,by dsimp only;omega,by dsimp only;omega⟩,h7⟩
 ·split
  ·exact⟨⟨_,_,_,h1,by dsimp only;omega,by dsimp only;omega,by dsimp only;omega⟩,⟨c3,by dsimp only;omega,by dsimp only;omega⟩,h7⟩
  ·exact⟨⟨_,_,_,h1,by dsimp only;omega,by dsimp only;omega,by dsimp only;omega⟩,⟨c3,by dsimp only;omega,by dsimp only;omega⟩,h7⟩
def Ef:∀ (l:List Sj_) (z:Int),0<=z->-1<=firstDone l z/\firstDone l z<z+l.length/\(firstDone l z<0\/z<=firstDone l z)
 | [],z,h=>by
  rw[firstDone,Qb7];omega
 | c::l,z,h=>by have:=Ef l (z+1) o_;rw[firstDone,Qa6];split<;>omega
def xfer:Nat->Sc_->Sc_
 | 0,l=>l
 | n+1,l=>if firstDone l.conns 0<0 then l else xfer n (finish1 l (firstDone l.conns 0))
def Aaw {l:Sc_} (h:firstDone l.conns 0<0):∀ n,xfer n l=l
 | 0=>rfl
 | n+1=>by rw[xfer,Qa1 h]
def Afg {l:Sc_} {n:Nat} (h:0<=firstDone l.conns 0):xfer (n+1) l=xfer n (finish1 l (firstDone l.conns 0)):=by rw[xfer,Qa3 o_]
def moved (l:Sc_) (b:Int):Sc_:={ l with conns:=moveConns l.conns b }
def transfer (l:Sc_) (b:Int):Sc_×Bool:=if l.conns.length=0\/inRange b 1 1000=false then(l,false) else(xfer l.conns.length (moved l b),true)
def AdW (l:List Sj_) (b:Int):wCs (moveConns l b)=wCs l:=by
 unfold moveConns;split
 ·unfold wCs;rw[Qg1];rfl
 ·rfl
def AeL (l:List Sj_) (b:Int):szL FV (moveConns l b)=szL FV l:=by
 unfold moveConns;split
 ·unfold szL;rw[Qg1,Qe9];rfl
 ·rfl
def Aag {l:List Sj_} (b:Int) (h:okCs l):okCs (moveConns l b):=by
 unfold moveConns;split
 ·intro c hc;obtain⟨d,hd,rfl⟩:=Qg6.1 hc;exact h d hd
 ·exact h
def AcX {l:Sc_} (h:okT l) (b:Int):okT (moved l b):=by
 obtain⟨⟨Q,M,R,h1,h2,h3,h4⟩,⟨h5,h6a,h6⟩,h7⟩:=h;have e1:=Dm l.conns b;have e2:=AdW l.conns b;unfold moved;exact⟨⟨Q,M,R,h1,by dsimp only;omega,by dsimp only;omega,by dsimp only;omega⟩,⟨Aag b h5,by dsimp only;omega,by dsimp only;omega⟩,h7⟩
def xInv (l0 l:Sc_) (n:Nat):Prop:=okT l/\l.conns.length<=n/\xfer n l=l0
def Rs {l0 l:Sc_} {n:Nat} (h:xInv l0 l (n+1)) (h0:0<=firstDone l.conns 0):xInv l0 (finish1 l (firstDone l.conns 0)) n:=by
 obtain⟨h1,h2,h3⟩:=h;have hd:=Ef l.conns 0 o_;rw[Afg h0] at h3;have hl:=HK h0 (show firstDone l.conns 0<l.conns.length from o_);exact⟨Ack h1 h0 o_,by rw[Rc];omega,h3⟩
def Ru {l0 l:Sc_} {n:Nat} (h:xInv l0 l n) (h0:firstDone l.conns 0<0):l=l0:=by
 have:=h.2.2
 rwa [Aaw h0] at this
def okTr (l:Sc_):Prop:=okT l/\l.parts.length<=1000000000
def Jv {l:Sc_} (h:okT l) (hp:l.parts.length<=1000000000):szNet l.net<=68719476736/\szPage l.page<=1099511627776/\l.parts.length<=1000000000/\l.conns.length<=1048576/\l.guesses.length<=4194304:=by
 have hf:=R3 h;have hq:=Do (Ev hf.1.1);exact⟨by have:=hf.2.2.2.1;omega,o_,hp,hf.2.1.1,hf.2.2.1⟩
def Abh {l:Sc_} {b:Int} (h:l.conns.length=0\/inRange b 1 1000=false):transfer l b=(l,false):=by unfold transfer;rw[Qa1 h]
def Adw {l:Sc_} {b:Int} (h1:¬ l.conns.length=0) (h2:inRange b 1 1000=true):transfer l b=(xfer l.conns.length (moved l b),true):=by
 unfold transfer;rw[Qa3 (by rintro(q|q);exact h1 q;rw[h2] at q;cases q)]
def Ado {l:Sc_} (h:okT l) (b:Int):xInv (xfer l.conns.length (moved l b)) { net:=l.net,page:=l.page,parts:=l.parts,conns:=moveConns l.conns b,guesses:=l.guesses } l.conns.length:=⟨AcX h b,Nat.le_of_eq (Dm l.conns b),rfl⟩
def XS {l0 l:Sc_} (h:xInv l0 l l.conns.length) (h0:0<=firstDone l.conns 0):xInv l0 (finish1 l (firstDone l.conns 0)) (closeConn l.conns (firstDone l.conns 0)).length:=by
 have hd:=Ef l.conns 0 o_;have hl:=HK h0 (show firstDone l.conns 0<l.conns.length from o_);rw[<-hl] at h;exact Rs h h0
def AiJ {l:Sc_} {k:Int} (h1:needsTo l.page (l.conns.getD k.toNat default).to=true) (h2:(l.conns.getD k.toNat default).guess=true):finish1 l k={ net:=keepAnswer l.net l.page.addr.host (l.conns.getD k.toNat default).to (l.conns.getD k.toNat default).bd,page:=takeAnswer l.page (l.conns.getD k.toNat default).to (l.conns.getD k.toNat default).bd,parts:=l.parts,conns:=closeConn l.conns k,guesses:=l.guesses }:=by
 unfold finish1 finishC;dsimp only;rw[Qa1 h1,Qa1 h2]
def Air {l:Sc_} {k:Int} (h1:needsTo l.page (l.conns.getD k.toNat default).to=true) (h2:(l.conns.getD k.toNat default).guess=false):finish1 l k={ net:=l.net,page:=takeAnswer l.page (l.conns.getD k.toNat default).to (l.conns.getD k.toNat default).bd,parts:=l.parts,conns:=closeConn l.conns k,guesses:=l.guesses }:=by
 unfold finish1 finishC;dsimp only;rw[Qa1 h1,Qa3 (by rw[h2];decide)]
def Ah9 {l:Sc_} {k:Int} (h1:needsTo l.page (l.conns.getD k.toNat default).to=false) (h2:(l.conns.getD k.toNat default).guess=true):finish1 l k={ net:=l.net,page:=l.page,parts:=l.parts,conns:=closeConn l.conns k,guesses:=(addGuess l.guesses (l.conns.getD k.toNat default).to (l.conns.getD k.toNat default).bd).1 }:=by
 unfold finish1 finishC;dsimp only;rw[Qa3 (by rw[h1];decide),Qa1 h2]
def Ah0 {l:Sc_} {k:Int} (h1:needsTo l.page (l.conns.getD k.toNat default).to=false) (h2:(l.conns.getD k.toNat default).guess=false):finish1 l k={ net:=l.net,page:=l.page,parts:=l.parts,conns:=closeConn l.conns k,guesses:=l.guesses }:=by
 unfold finish1 finishC;dsimp only;rw[Qa3 (by rw[h1];decide),Qa3 (by rw[h2];decide)]
def Dn:Fct:=⟨[.v (.el .loader),.v (.el .int)],[.el .loader,.el .bool],λ(x_:Sc_×Int×Unit)=>okTr x_.1,λ(x_:Sc_×Int×Unit)=>((transfer x_.1 x_.2.1).1,(transfer x_.1 x_.2.1).2,())⟩
abbrev C5 (l:Sc_) (b:Int):LInv:=⟨[⟨.b,6,true,.el .loader⟩,⟨.s,7,true,.el .int⟩,⟨.b,2,false,.el .loader⟩,⟨.b,4,true,.el .loader⟩],λ(z_ x_:Sc_×Int×Sc_×Sc_×Unit)=>((0<=x_.2.1/\x_.2.1<=l.conns.length/\xInv (xfer l.conns.length (moved l b)) x_.1 (l.conns.length-x_.2.1.toNat))/\x_.2.2.1=z_.2.2.1)/\x_.2.2.2.1=z_.2.2.2.1,λ(x_:Sc_×Int×Sc_×Sc_×Unit)=>l.conns.length-x_.2.1.toNat⟩
def Akd:=Ame.a Dn<|Fct.p (KP [1,2,4,5,6,7,8] [19,30,37]) (λ⟨l,b,_⟩=>lv [(6,C5 l b)]) Ame.2 func152 (by
 rintro⟨(l:Sc_),(b:Int),_⟩ hp;refine ho (.cl fCopyLoader (l,()) λz2=>.br ((l.conns.length:Int)==0) (.lf Dn (z2.1,false,())) (.cl fInRange (b,(1:Int),(1000:Int),()) λz3=>.br (!z3.1) (.lf Dn (z2.1,false,())) (.cl Jb (l.conns,b,()) λz4=>lpx (C5 l b) ((⟨z2.1.net,z2.1.page,z2.1.parts,z4.1,z2.1.guesses⟩:Sc_),((0:Int),(l,(default,())))) λ(y5:Sc_×Int×Sc_×Sc_×PUnit) bk5=>.br (decide (y5.2.1<(y5.2.2.1.conns.length:Int))) (.cl GB (y5.1.conns,()) λ(z5:Int×PUnit)=>.br (decide (z5.1<0)) (.lf Dn (y5.1,true,())) (.ob (FR.pre (y5.1,z5.1,()))<|.lt _ (FR.fn (y5.1,z5.1,())) λz6=>.ob (Value.int IntKind.i64 b=Value.int IntKind.i64 b)<|.ob (bk5 (z6.1.1,(w1 y5.2.1,(y5.2.2.1,(y5.2.2.2.1,())))))<|.ok)) (.lf Dn (y5.1,true,()))))) ?_;refine Ae ?_ λ_=>(Ab (λh2=>lfY ?_) (λh2=>Ae trivial λ_=>(Ab (λh3=>lfY ?_) (λh3=>Ae ?_ λ_=>(Ai ?_ λ(y5:Sc_×Int×Sc_×Sc_×PUnit) i5=>Ab (λh6=>Ae ?_ λ_=>(Ab (λh8=>lfY ?_) (λh8=>Aa ?_ λ_=>DU (Aa rfl λ_=>Aa ?_ λ_=>trivial)))) (λh6=>lfY ?_))))))
 all_goals obtain⟨q1,q2⟩:=(show okTr l from hp)
 all_goals
  have hc:=Jv q1 q2;try simp only[Hv] at *
  try simp only[C5,fCopyLoader,FR,GB,fInRange,Jb,Dn,std,Nat.reduceAdd] at *
 all_goals first|trivial|omega|exact hc|exact hc.2.2.2.1|(rw[Abh (.inl o_)];exact⟨rfl,rfl⟩)|(rw[Abh (.inr ‹_›)];exact⟨rfl,rfl⟩)|exact⟨o_,o_,Ado q1 b⟩|skip
 all_goals (obtain⟨⟨⟨a1,a2,a3⟩,e1⟩,e2⟩:=i5;simp only[e1] at *)
 all_goals
  have hf:=R3 a3.1;have hd:=Ef y5.1.conns 0 o_;have ha:=a3.2.1
 all_goals first|trivial|omega|exact hf.2.1.1|exact⟨hf,o_,o_⟩|(rw[Adw o_ ‹_›];exact⟨Ru a3 o_,rfl⟩)|skip
 all_goals rw[show l.conns.length-y5.2.1.toNat=(l.conns.length-(y5.2.1.toNat+1))+1 from o_] at a3
 all_goals rw[Ag o_,show(y5.2.1+1).toNat=y5.2.1.toNat+1 from o_]
 all_goals exact⟨⟨⟨⟨o_,o_,Rs a3 o_⟩,by trivial⟩,e2⟩,o_⟩)
abbrev BS (l:Sc_) (b:Int):LInv:=⟨[⟨.b,6,true,.el .loader⟩,⟨.b,4,true,.el .loader⟩],λ(z_ x_:Sc_×Sc_×Unit)=>(xInv (xfer l.conns.length (moved l b)) x_.1 x_.1.conns.length)/\x_.2.1=z_.2.1,λ(x_:Sc_×Sc_×Unit)=>x_.1.conns.length⟩
def Alz:=Akd.a Dn<|Fct.p (KP [1,2,4,5,6,7,8,9] [20,31,48,59,72]) (λ⟨l,b,_⟩=>lv [(5,BS l b)]) Akd.2 func174 (by
 rintro⟨(l:Sc_),(b:Int),_⟩ hp;refine ho (let q1_:=Value.int IntKind.i64 b=Value.int IntKind.i64 b;.cl fCopyLoader (l,()) λz2=>let q2_:Out:=.lf Dn (z2.1,false,());.br ((l.conns.length:Int)==0) q2_ (.cl fInRange (b,(1:Int),(1000:Int),()) λz3=>.br (!z3.1) q2_ (.cl Jb (z2.1.conns,b,()) λz4=>lpx (BS l b) (({z2.1 with conns:=z4.1}:Sc_),(default,())) λ(y5:Sc_×Sc_×PUnit) bk5=>.cl GB (y5.1.conns,()) λ(z5:Int×PUnit)=>let q0_:=y5.1.conns.getD z5.1.toNat default;.br (decide (z5.1<0)) (.lf Dn (y5.1,true,())) (.ob (inB z5.1 y5.1.conns.length)<|.ob (z5.1.toNat<y5.1.conns.length)<|.cl Cd (y5.1.conns,z5.1,()) λz6=>.cl Bu (y5.1.page,()) λz7=>.cl AJ (z7.1,(y5.1.conns.getD z5.1.toNat default,()),()) λz8=>.br (z8.1) (.cl A4 (y5.1.page,q0_.to,q0_.bd,()) λz9=>.br (q0_.guess) (.cl fKeepAnswer (y5.1.net,z9.1.addr.host,q0_.to,q0_.bd,()) λz10=>.ob q1_<|.ob (bk5 ((⟨z10.1,z9.1,y5.1.parts,z6.1,y5.1.guesses⟩:Sc_),(y5.2.1,())))<|.ok) (.ob q1_<|.ob (bk5 (({y5.1 with page:=z9.1,conns:=z6.1}:Sc_),(y5.2.1,())))<|.ok)) (.br (q0_.guess) (.cl CT (y5.1.guesses,q0_.to,q0_.bd,()) λz11=>.ob q1_<|.ob (bk5 (({y5.1 with conns:=z6.1,guesses:=z11.1}:Sc_),(y5.2.1,())))<|.ok) (.ob q1_<|.ob (bk5 (({y5.1 with conns:=z6.1}:Sc_),(y5.2.1,())))<|.ok)))))) ?_;repeat' first|(guard_target =~ Out.holds _ _;first|refine Ai (li:=BS l b) ?_ λ(y5:Sc_×Sc_×PUnit) i5=>?_|refine lfY ?_|refine Ab (λ_=>?_) λ_=>?_|refine Ae ?_ λ_=>?_|refine Aa ?_ λ_=>?_)|exact trivial
 all_goals obtain⟨q1,q2⟩:=(show okTr l from hp)
 all_goals
  have hc:=Jv q1 q2;try simp only[Hv] at *
  try simp only[BS,CT,Cd,AJ,fCopyLoader,GB,fInRange,fKeepAnswer,Jb,Bu,A4,Dn,std,Nat.reduceAdd] at *
 all_goals first|trivial|omega|exact hc|exact hc.2.2.2.1|(rw[Abh (.inl o_)];exact⟨rfl,rfl⟩)|(rw[Abh (.inr ‹_›)];exact⟨rfl,rfl⟩)|(rw[Dm];exact Ado q1 b)|skip
 all_goals (obtain⟨a3,e1⟩:=i5)
 all_goals
  have hf:=R3 a3.1;have hd:=Ef y5.1.conns 0 o_
 all_goals first|trivial|omega|exact hf.2.1.1|exact hf.2.2.1|exact hf.1.2|(rw[Adw o_ ‹_›];exact⟨Ru a3 o_,rfl⟩)|skip
 all_goals
  have hcs:=hf.2.1.2 _ (A7 (show(firstDone y5.1.conns 0).toNat<y5.1.conns.length from o_));have hs1:(y5.1.conns.getD (firstDone y5.1.conns 0).toNat default).bd.body.size+(y5.1.conns.getD (firstDone y5.1.conns 0).toNat default).bd.bj.size<=1048576:=hcs.1;have hn:=FB y5.1.page;have hh:y5.1.page.addr.host.size<=4000000:=by have:=(Do (Ev hf.1.1)).2.1;simp only[szAddr] at this;omega
  have hz:=hf.2.2.2;have hw:=hf.1.2
 all_goals first|exact⟨o_,λ_=>trivial⟩|exact⟨hf.1.1,o_,o_,o_⟩|(rw[Hh];exact⟨o_,o_,o_,o_,o_⟩)|skip
 all_goals
  have hx:=XS a3 o_;have hl:=HK (show 0<=firstDone y5.1.conns 0 from o_) (show firstDone y5.1.conns 0<y5.1.conns.length from o_);try rw[Hh]
 all_goals refine⟨⟨?_,e1⟩,o_⟩
 all_goals first|(rw[AiJ ‹_› ‹_›] at hx;exact hx)|(rw[Air ‹_› ‹_›] at hx;exact hx)|(rw[Ah9 ‹_› ‹_›] at hx;exact hx)|(rw[Ah0 ‹_› ‹_›] at hx;exact hx))
def AgR {l:Sc_} {k:Int} (h0:0<=k) (hk:k<l.conns.length):szL FV (finish1 l k).conns+szL EV (finish1 l k).guesses<=szL FV l.conns+szL EV l.guesses:=by
 have c1:=AbT h0 hk;have hg:=AeZ l.guesses (l.conns.getD k.toNat default).to (l.conns.getD k.toNat default).bd;rw[Rc];simp only[FV] at c1;unfold finish1 finishC;split
 ·split<;>(dsimp only;omega)
 ·split<;>(dsimp only;omega)
def actOf (l:Sc_) (n:Int):Sc_×Bool:=if n=0 then arrivePart l else if n=1 then requestNext l else if n=2 then guessNext l else if n=3 then transfer l 20 else transfer l 200
def okAct (l:Sc_):Prop:=okArr l/\okRN l/\okGN l/\okTr l
def RT:Fct:=⟨[.v (.el .loader),.v (.el .int)],[.el .loader,.el .bool],λ(x_:Sc_×Int×Unit)=>okAct x_.1,λ(x_:Sc_×Int×Unit)=>((actOf x_.1 x_.2.1).1,(actOf x_.1 x_.2.1).2,())⟩
theorem q27 (l:Sc_) (n:Int) (hp:RT.pre (l,n,())):Out.holds (RT.ctr (l,n,())).post (.br (n==0) (.cl Ce (l,()) λz2=>.lf RT (z2.1,z2.2.1,())) (.br (n==1) (.cl BL (l,()) λz3=>.lf RT (z3.1,z3.2.1,())) (.br (n==2) (.cl CD (l,()) λz4=>.lf RT (z4.1,z4.2.1,())) (.br (n==3) (.cl Dn (l,(20:Int),()) λz5=>.lf RT (z5.1,z5.2.1,())) (.cl Dn (l,(200:Int),()) λz6=>.lf RT (z6.1,z6.2.1,())))))):=by
 repeat' (guard_target =~ Out.holds _ _;first|refine lfY ?_|refine Ab (λ_=>?_) λ_=>?_|refine Ae ?_ λ_=>?_)
 all_goals obtain⟨w1,w2,w4,w3⟩:=(show okAct l from hp)
 all_goals try simp only[RT,Ce,CD,BL,Dn,std,Nat.reduceAdd] at *
 all_goals first|trivial|omega|exact w1|exact w2|exact w3|exact w4|skip
 all_goals unfold actOf
 all_goals repeat first|(rw[Qa1 o_];exact⟨rfl,rfl⟩)|rw[Qa3 o_]
 all_goals first|exact⟨rfl,rfl⟩|skip
def AlR:=Alz.a RT<|Fct.o (KP [1,2,4,5,6] [7,13,19,25]) Alz.2 func110 (by
 rintro⟨(l:Sc_),(n:Int),_⟩ hp;exact ho _ (q27 l n hp))
def Ake:=AlR.a RT<|Fct.o (KP [1,2,4,5,6] [7,13,19,25]) AlR.2 func129 (by
 rintro⟨(l:Sc_),(n:Int),_⟩ hp;exact ho _ (q27 l n hp))
def stepR (l:Sc_) (c:Int):Nat->Sc_×Bool
 | 0=>(l,false)
 | n+1=>if(actOf l ((max 0 c % 5+(4-(n:Int))) % 5)).2=true then(actOf l ((max 0 c % 5+(4-(n:Int))) % 5)) else stepR l c n
def stepLoad (l:Sc_) (c:Int):Sc_×Bool:=stepR l c 5
def tm5 {a:Int} (h:0<=a):Int.tmod a 5=a % 5:=Int.tmod_eq_emod_of_nonneg h
def AgU {l:Sc_} {c i:Int} (h0:0<=i) (h5:i<5):stepR l c (5-i.toNat)=if(actOf l ((IntKind.i64.wrap (Int.tmod (max 0 c) 5+i)).tmod 5)).2=true then actOf l ((IntKind.i64.wrap (Int.tmod (max 0 c) 5+i)).tmod 5) else stepR l c (5-(i.toNat+1)):=by
 have e:(IntKind.i64.wrap (Int.tmod (max 0 c) 5+i)).tmod 5=(max 0 c % 5+(4-((5-(i.toNat+1):Nat):Int))) % 5:=by rw[tm5 (show 0<=max 0 c from o_),Ag o_,tm5 o_,show(4-((5-(i.toNat+1):Nat):Int))=i from o_]
 rw[e,show 5-i.toNat=(5-(i.toNat+1))+1 from o_];rw[stepR]
def Ag5 {l:Sc_} {c i:Int} (h:5<=i):stepR l c (5-i.toNat)=(l,false):=by rw[show 5-i.toNat=0 from o_];rfl
def CS:Fct:=⟨[.v (.el .loader),.v (.el .int)],[.el .loader,.el .bool],λ(x_:Sc_×Int×Unit)=>okAct x_.1,λ(x_:Sc_×Int×Unit)=>((stepLoad x_.1 x_.2.1).1,(stepLoad x_.1 x_.2.1).2,())⟩
abbrev Dc (l:Sc_) (c:Int):LInv:=⟨[⟨.s,7,true,.el .int⟩,⟨.b,2,false,.el .loader⟩,⟨.b,4,true,.el .loader⟩],λ(z_ x_:Int×Sc_×Sc_×Unit)=>((0<=x_.1/\x_.1<=5/\stepR l c (5-x_.1.toNat)=stepLoad l c)/\x_.2.1=z_.2.1)/\x_.2.2.1=z_.2.2.1,λ(x_:Int×Sc_×Sc_×Unit)=>5-x_.1.toNat⟩
def AmB:=Ake.a CS<|Fct.p (KP [1,2,4,5,6,7,8,9] [14,26]) (λ⟨l,c,_⟩=>lv [(3,Dc l c)]) Ake.2 func68 (by
 rintro⟨(l:Sc_),(c:Int),_⟩ hp;refine ho (.cl AaK ((0:Int),c,()) λ(z2:Int×PUnit)=>.ob ((5:Int)≠(0:Int))<|lpx (Dc l c) ((0:Int),(l,(default,()))) λ(y2:Int×Sc_×Sc_×PUnit) bk2=>.br (decide (y2.1<5)) (.ob ((5:Int)≠(0:Int))<|.cl RT (y2.2.1,(wr (z2.1.tmod (5:Int)+y2.1)).tmod (5:Int),()) λz3=>.br (z3.2.1) (.lf CS (z3.1,true,())) (.ob (Value.int IntKind.i64 c=Value.int IntKind.i64 c)<|.ob (Value.int IntKind.i64 (z2.1.tmod (5:Int))=Value.int IntKind.i64 (z2.1.tmod (5:Int)))<|.ob (bk2 (w1 y2.1,(y2.2.1,(y2.2.2.1,()))))<|.ok)) (.cl fCopyLoader (y2.2.1,()) λz4=>.lf CS (z4.1,false,()))) ?_;refine Ae trivial λ_=>(Aa ?_ λ_=>Ai ?_ λ(y2:Int×Sc_×Sc_×PUnit) i2=>Ab (λh3=>Aa ?_ λ_=>Ae ?_ λ_=>(Ab (λh6=>lfY ?_) (λh6=>Aa rfl λ_=>Aa rfl λ_=>Aa ?_ λ_=>trivial))) (λh3=>Ae ?_ λ_=>(lfY ?_)))
 all_goals
  have hq:=(show okAct l from hp);have hw:=hq.2.2.2;try simp only[Dc,RT,fCopyLoader,AaK,CS,std,Nat.reduceAdd] at *
 all_goals first|trivial|omega|exact⟨o_,o_,rfl⟩|skip
 all_goals (obtain⟨⟨⟨a1,a2,a3⟩,e1⟩,e2⟩:=i2;simp only[e1] at *)
 all_goals first|trivial|omega|exact hq|exact Jv hw.1 hw.2|skip
 all_goals first|(rw[Ag5 o_] at a3;rw[<-a3];exact⟨rfl,rfl⟩)|rw[AgU a1 o_] at a3
 all_goals first|(rw[Qa1 ‹_›] at a3;rw[<-a3];exact⟨rfl,Eq.symm ‹_›⟩)|(rw[Qa3 (λq=>tf q ‹_›)] at a3;rw[Ag o_,show(y2.1+1).toNat=y2.1.toNat+1 from o_];exact⟨⟨⟨⟨o_,o_,a3⟩,by trivial⟩,e2⟩,o_⟩))
abbrev C6 (l:Sc_) (c:Int):LInv:=⟨[⟨.s,6,true,.el .int⟩,⟨.b,2,false,.el .loader⟩,⟨.b,4,true,.el .loader⟩],λ(z_ x_:Int×Sc_×Sc_×Unit)=>((0<=x_.1/\x_.1<=5/\stepR l c (5-x_.1.toNat)=stepLoad l c)/\x_.2.1=z_.2.1)/\x_.2.2.1=z_.2.2.1,λ(x_:Int×Sc_×Sc_×Unit)=>5-x_.1.toNat⟩
def Ana:=AmB.a CS<|Fct.p (KP [1,2,4,5,6,7,8] [10,24]) (λ⟨l,c,_⟩=>lv [(2,C6 l c)]) AmB.2 func77 (by
 rintro⟨(l:Sc_),(c:Int),_⟩ hp;refine ho (lpx (C6 l c) ((0:Int),(l,(default,()))) λ(y1:Int×Sc_×Sc_×PUnit) bk1=>.br (decide (y1.1<5)) (.ob ((5:Int)≠(0:Int))<|.ob ((5:Int)≠(0:Int))<|.cl RT (y1.2.1,(wr ((if c>0 then c else(0:Int)).tmod (5:Int)+y1.1)).tmod (5:Int),()) λz2=>.br (z2.2.1) (.lf CS (z2.1,true,())) (.ob (Value.int IntKind.i64 c=Value.int IntKind.i64 c)<|.ob (bk1 (w1 y1.1,(y1.2.1,(y1.2.2.1,()))))<|.ok)) (.cl fCopyLoader (y1.2.1,()) λz3=>.lf CS (z3.1,false,()))) ?_;refine Ai ?_ λ(y1:Int×Sc_×Sc_×PUnit) i1=>Ab (λh2=>Aa ?_ λ_=>Aa ?_ λ_=>Ae ?_ λ_=>(Ab (λh6=>lfY ?_) (λh6=>Aa rfl λ_=>Aa ?_ λ_=>trivial))) (λh2=>Ae ?_ λ_=>(lfY ?_))
 all_goals
  have hq:=(show okAct l from hp);have hw:=hq.2.2.2;try simp only[C6,RT,fCopyLoader,CS,std,Nat.reduceAdd] at *
  try simp only[show(if c>0 then c else 0)=max 0 c from by split<;>omega] at *
 all_goals first|trivial|omega|exact⟨o_,o_,rfl⟩|skip
 all_goals (obtain⟨⟨⟨a1,a2,a3⟩,e1⟩,e2⟩:=i1;simp only[e1] at *)
 all_goals first|trivial|omega|exact hq|exact Jv hw.1 hw.2|skip
 all_goals first|(rw[Ag5 o_] at a3;rw[<-a3];exact⟨rfl,rfl⟩)|rw[AgU a1 o_] at a3
 all_goals first|(rw[Qa1 ‹_›] at a3;rw[<-a3];exact⟨rfl,Eq.symm ‹_›⟩)|(rw[Qa3 (λq=>tf q ‹_›)] at a3;rw[Ag o_,show(y1.1+1).toNat=y1.1.toNat+1 from o_];exact⟨⟨⟨⟨o_,o_,a3⟩,by trivial⟩,e2⟩,o_⟩))
def Kp (p:Sa_):Prop:=okTo p/\-9223372036854775808<=p.block/\p.block<=9223372036854775807
def Vc {p q:Sa_} (h:Kp p) (hs:q.bf=p.bf) (hm:q.bh=p.bh) (hb:q.block=p.block):Kp q:=by
 unfold Kp okTo at *
 rw[hs,hm,hb];exact h
def Vm (p:Sa_) (m:Int) (to d:ByteArray) (n:Int):(newSlot p m to d n).to=(parseAddr to p.addr.host).1:=by unfold newSlot;split<;>rfl
def UT {p:Sa_} (h:Kp p) (m:Int) (to d:ByteArray) (n:Int):Kp (addSlot p m to d n).1:=by
 unfold addSlot;split
 ·refine⟨⟨λs hs=>?_,h.1.2⟩,h.2⟩;rcases Qb8.1 hs with q|q
  ·exact h.1.1 s q
  ·rw[List.mem_singleton.1 q,Vm];have:=FA to p.addr.host;omega
 ·exact h
def Ag2 {p:Sa_} (h:Kp p) {a:Sb_} (ha:szAddr a<=16):Kp (askModule p a):=by
 unfold askModule;split
 ·exact h
 ·refine⟨⟨h.1.1,λm hm=>?_⟩,h.2⟩;rcases Qb8.1 hm with q|q
  ·exact h.1.2 m (List.mem_of_mem_take q)
  ·rcases Qd6.1 q with q|q
   ·rw[q];have e:(newMod p a).to=a:=by unfold newMod;first|rfl|(split<;>rfl)
    rw[e];omega
   ·exact h.1.2 m (List.mem_of_mem_drop q)
def Agk {p:Sa_} (h:Kp p) (to:ByteArray):Kp (addEntry p to):=by
 unfold addEntry;split
 ·exact Vc (Ag2 h (FA to p.addr.host)) rfl rfl rfl
 ·exact h
def W8 {p:Sa_} (h:Kp p) (t:Sh_) (n:Int):Kp (element p t n):=by
 unfold element;split
 ·exact UT h ..
 ·split
  ·exact UT h ..
  ·exact h
def Ace {p:Sa_} (h:Kp p) (n:Int):Kp (script p n):=by
 unfold script;split
 ·split
  ·exact Vc h rfl rfl rfl
  ·exact h
 ·split
  ·exact UT h ..
  ·split
   ·exact Agk h ..
   ·have hb:=Kw p 3 ((findAttr (p.ba.bi.getD n.toNat default).bo ⟨#[115,114,99]⟩).getD ⟨#[]⟩) ((findAttr (p.ba.bi.getD n.toNat default).bo ⟨#[100,105,103,101,115,116]⟩).getD ⟨#[]⟩) n;exact⟨(UT h ..).1,by dsimp only;omega,by dsimp only;omega⟩
def AhC {p:Sa_} (h:Kp p) (s:ByteArray):Kp (say p s):=by
 unfold say;split
 ·exact Vc h rfl rfl rfl
 ·exact h
def Ae6 {p:Sa_} (h:Kp p) (c:ByteArray) (w:Bool):Kp (runCode p c w):=by
 unfold runCode;split
 ·exact Vc h rfl rfl rfl
 ·exact Vc h rfl rfl rfl
def Afd {p:Sa_} (h:Kp p):Kp (takeToken p).1:=by
 unfold takeToken;split
 ·exact h
 ·have ht:Kp (taken p (p.bn.getD 0 default)):=Vc h rfl rfl rfl;show Kp (takeTok p _);unfold takeTok;split
  ·exact W8 ht _ _
  ·split
   ·exact Ace ht _
   ·exact ht
def Agp {p:Sa_} (h:Kp p):Kp { p with block:=0 }:=⟨h.1,by dsimp only;omega,by dsimp only;omega⟩
def Abw {p:Sa_} (h:Kp p):Kp (stepParser p).1:=by
 unfold stepParser;split
 ·unfold stepInline;split
  ·exact Vc (Ae6 h _ _) rfl rfl rfl
  ·exact h
 ·split
  ·unfold stepBlock;split
   ·exact Agp h
   ·split
    ·exact h
    ·split
     ·exact Agp (Ae6 h _ _)
     ·exact Agp h
  ·exact Afd h
def Ou (p:Sa_):∀ (l:List Sb_) (q:Sa_),Kp q->Kp (enterAll p q l)
 | [],q,h=>h
 | b::l,q,h=>by
  refine Ou p l (enter1 p q b) ?_;unfold enter1;split
  ·exact h
  ·exact Vc h rfl rfl rfl
def Agc {p:Sa_} (h:Kp p) (a:Sb_):Kp (enter p a):=by
 unfold enter;split
 ·exact AhC h _
 ·exact Ou p _ p h
def Ag0 {p:Sa_} (h:Kp p):Kp (stepTail p).1:=by
 unfold stepTail;split
 ·exact h
 ·split
  ·unfold tailDefer;split
   ·exact h
   ·split
    ·exact Vc (Ae6 h _ _) rfl rfl rfl
    ·exact Vc h rfl rfl rfl
  ·split
   ·unfold tailEnter;split
    ·exact h
    ·exact Vc (Agc h _) rfl rfl rfl
   ·split
    ·exact h
    ·exact Vc (AhC h _) rfl rfl rfl
def Afa:∀ (n:Nat) (p:Sa_),Kp p->Kp (adv n p)
 | 0,p,h=>h
 | n+1,p,h=>by
  rw[adv];split
  ·refine Afa n _ ?_;unfold step1;split
   ·exact Abw h
   ·exact Ag0 h
  ·exact h
def AdS:∀ (l:List Sb_) (p:Sa_),Kp p->(∀ b,b∈l->b.host.size<=8/\b.path.size<=8)->Kp (l.foldl askModule p)
 | [],p,h,_=>h
 | b::l,p,h,hb=>AdS l (askModule p b) (Ag2 h (by have:=hb b Qd7;simp only[szAddr];omega)) λc hc=>hb c (Qc4 _ hc)
def AcN (p:Sa_) (a:Sb_) (x:Sd_) (s:Sn_):(fillF p a x s).to=s.to:=by
 unfold fillF;split
 ·unfold fillS;split<;>rfl
 ·rfl
def Kt {α:Type} {f:α->α} {m:α}:∀ {l:List α} {i:Nat},m∈l.modify i f->m∈l\/∃ z,z∈l/\m=f z
 | [],0,h=>.inl h
 | [],_+1,h=>.inl h
 | z::l,0,h=>by
  rcases Qd6.1 (show m∈f z::l from h) with q|q
  ·exact .inr ⟨z,Qd7,q⟩
  ·exact .inl (Qc4 _ q)
 | z::l,i+1,h=>by
  rcases Qd6.1 (show m∈z::l.modify i f from h) with q|q
  ·exact .inl (by rw[q];exact Qd7)
  ·rcases Kt q with q|⟨w,h1,h2⟩
   ·exact .inl (Qc4 _ q)
   ·exact .inr ⟨w,Qc4 _ h1,h2⟩
def AaO {p:Sa_} (h:Kp p) (a:Sb_) (x:Sd_):Kp (fillM0 p a x):=by
 refine⟨⟨h.1.1,λm hm=>?_⟩,h.2⟩;rcases Kt (show m∈p.bh.modify (findMod p.bh a).toNat (fillM p x) from hm) with q|⟨z,h1,h2⟩
 ·exact h.1.2 m q
 ·rw[h2];exact h.1.2 z h1
def PU {p:Sa_} (h:Kp p) (a:Sb_) (x:Sd_):Kp (takeAnswer p a x):=by
 have h1:Kp (fillAll p a x):=by refine⟨⟨λs hs=>?_,h.1.2⟩,h.2⟩;obtain⟨z,hz,rfl⟩:=Qg6.1 (show s∈p.bf.map (fillF p a x) from hs);rw[AcN];exact h.1.1 z hz
 refine Afa 2000 _ ?_;unfold fillModule;split
 ·exact h1
 ·rename_i hc;exact AdS _ _ (AaO h1 a x) (KB (x:=x) (show 0<=findMod (fillAll p a x).bh a from o_)).1
def Aht {p:Sa_} (h:Kp p) (s:ByteArray):Kp (arriveText p s):=by
 unfold arriveText;split
 ·exact h
 ·exact Vc h rfl rfl rfl
def AhX {p:Sa_} (h:Kp p):Kp (endPage p):=by
 unfold endPage;split
 ·exact h
 ·exact Vc h rfl rfl rfl
def GW (p:Sa_) (m:Int) (to d:ByteArray) (n:Int):(addSlot p m to d n).1.tok=p.tok:=by unfold addSlot;split<;>rfl
def Aau (p:Sa_) (a:Sb_):(askModule p a).tok=p.tok:=by unfold askModule;split<;>rfl
def Qe (p:Sa_) (to:ByteArray):(addEntry p to).tok=p.tok:=by
 unfold addEntry;split
 ·exact Aau p _
 ·rfl
def TB (p:Sa_) (t:Sh_) (n:Int):(element p t n).tok=p.tok:=by
 unfold element;split
 ·exact GW ..
 ·split
  ·exact GW ..
  ·rfl
def Vl (p:Sa_) (n:Int):(script p n).tok=p.tok:=by
 unfold script;split
 ·split<;>rfl
 ·split
  ·exact GW ..
  ·split
   ·exact Qe ..
   ·exact GW p ..
def Xv (p:Sa_) (s:ByteArray):(say p s).tok=p.tok:=by unfold say;split<;>rfl
def IM (p:Sa_) (c:ByteArray) (w:Bool):(runCode p c w).tok=p.tok:=by unfold runCode;split<;>rfl
def P7 (p:Sa_):(takeToken p).1.tok=p.tok:=by
 unfold takeToken;split
 ·rfl
 ·show(takeTok p _).tok=_;unfold takeTok;split
  ·exact TB _ _ _
  ·split
   ·exact Vl _ _
   ·rfl
def Wp (p:Sa_):(stepParser p).1.tok=p.tok:=by
 unfold stepParser;split
 ·unfold stepInline;split
  ·exact IM _ _ _
  ·rfl
 ·split
  ·unfold stepBlock;split
   ·rfl
   ·split
    ·rfl
    ·split
     ·exact IM _ _ _
     ·rfl
  ·exact P7 p
def KH (p:Sa_):∀ (l:List Sb_) (q:Sa_),(enterAll p q l).tok=q.tok
 | [],q=>rfl
 | b::l,q=>by have:=KH p l (enter1 p q b);refine this.trans ?_;unfold enter1;split<;>rfl
def YB (p:Sa_) (a:Sb_):(enter p a).tok=p.tok:=by
 unfold enter;split
 ·exact Xv _ _
 ·exact KH p _ p
def AbN (p:Sa_):(stepTail p).1.tok=p.tok:=by
 unfold stepTail;split
 ·rfl
 ·split
  ·unfold tailDefer;split
   ·rfl
   ·split
    ·exact IM _ _ _
    ·rfl
  ·split
   ·unfold tailEnter;split
    ·rfl
    ·exact YB _ _
   ·split
    ·rfl
    ·exact Xv _ _
def S7:∀ (n:Nat) (p:Sa_),(adv n p).tok=p.tok
 | 0,p=>rfl
 | n+1,p=>by
  rw[adv];split
  ·refine(S7 n _).trans ?_;unfold step1;split
   ·exact Wp p
   ·exact AbN p
  ·rfl
def Un:∀ (l:List Sb_) (p:Sa_),(l.foldl askModule p).tok=p.tok
 | [],p=>rfl
 | b::l,p=>(Un l (askModule p b)).trans (Aau p b)
def Nz (p:Sa_) (a:Sb_) (x:Sd_):(takeAnswer p a x).tok=p.tok:=by
 refine(S7 2000 _).trans ?_;unfold fillModule;split
 ·rfl
 ·exact Un _ _
def Yi {all:List Sq_}:∀ {l:List Sq_} {k:Int},entOk all l k=true->∀ e,e∈l->Ad e.bd<=700
 | [],_,_,e,he=>by cases he
 | y::l,k,h,e,he=>Ju (J9 h e he)
def okNg (G:Nat) (n:Ss_):Prop:=szL A1 n.servers<=1048576/\szCache n.cache<=2097152/\(∀ e,e∈n.cache.bg->Ad e.bd<=1048576)/\szL DO n.log+2100000*G<=7000000000
def V5 {G:Nat} {n:Ss_} (h:okNg G n):okNt n:=⟨by simp only[szNet];have:=h.1;have:=h.2.1;have:=h.2.2.2;omega,by have:=h.2.1;omega,h.1,h.2.2.1⟩
def AiH {G:Nat} {n:Ss_} (h:okNg G n):okNk n:=⟨by simp only[szNet];have:=h.1;have:=h.2.2.2;omega,by have:=h.2.1;omega⟩
def Kv {G:Nat} {n:Ss_} (h:okNg (G+1) n):okNg G n:=⟨h.1,h.2.1,h.2.2.1,by have:=h.2.2.2;omega⟩
def keep_ng {G:Nat} {n:Ss_} (h:okNg G n) (t:ByteArray) (a:Sb_) (x:Sd_):okNg G (keepAnswer n t a x):=by
 unfold keepAnswer;split
 ·refine⟨h.1,UV n.cache t a x n.now h.2.1 o_,λe he=>?_,h.2.2.2⟩;have he:e∈(storeEntry n.cache t a x n.now).bg:=he;unfold storeEntry at he;split at he
  ·rename_i q;have q:=q.2.2.2;unfold isCache at q;rw[Qa2] at q;exact Qd8 (Yi q.1 e he) o_
  ·exact h.2.2.1 e he
 ·exact h
def AdZ {G:Nat} {n:Ss_} (h:okNg (G+1) n) {t:ByteArray} {a:Sb_} (g:Bool) (ht:t.size<=2097152) (ha:szAddr a<=16):okNg G (logSent n t a g):=by
 have h4:=h.2.2.2;unfold logSent;split
 ·refine⟨h.1,h.2.1,h.2.2.1,?_⟩;show szL DO (n.log++[⟨t,a,g⟩])+2100000*G<=7000000000;rw[Fi];simp only[DO];omega
 ·exact Kv h
def PK {G:Nat} {n:Ss_} (h:okNg (G+1) n) {t:ByteArray} (a:Sb_) (g:Bool) (ht:t.size<=2097152):okNg G (fetchNow n t a g).1:=by
 unfold fetchNow;split
 ·exact Kv h
 ·rename_i hn;split
  ·exact Kv h
  ·have ha:szAddr a<=16:=by
    have e:(isName a.host&&isName a.path)=true:=by
     cases q:(isName a.host&&isName a.path) with
     | true=>rfl
     | false=>exact absurd (by first|exact q|(rw[q];rfl)|(simp[q])) hn
    rw[Qa2] at e;have a1:=FM e.1;have a2:=FM e.2;simp only[szAddr];omega
   dsimp only;split
   ·exact AdZ h g ht ha
   ·exact keep_ng (AdZ h g ht ha) _ _ _
def okL (G:Nat) (l:Sc_):Prop:=(∃ Q M R,okAll l.page Q M R/\Q+740000*l.conns.length+8000000*G<=889000000000/\M+600*wCs l.conns+250000*G<=48000000000/\R+20*wCs l.conns+10000*G<=18000000000)/\(Kp l.page/\l.page.addr.host.size<=2097152/\l.page.tok.rest.size+szL Af l.parts<=2900000)/\(okCs l.conns/\l.conns.length<=1048576/\l.guesses.length+l.conns.length+G<=4194304/\okGs l.guesses)/\okNg G l.net
def G9 {G:Nat} {l:Sc_} (h:okL (G+1) l):okL G l:=by
 obtain⟨⟨Q,M,R,h1,h2,h3,h4⟩,h5,⟨h6,h7,h8,h9⟩,h10⟩:=h;exact⟨⟨Q,M,R,h1,o_,o_,o_⟩,h5,⟨h6,h7,o_,h9⟩,Kv h10⟩
def Kl {G:Nat} {l:Sc_} (h:okL G l):okAct l:=by
 obtain⟨⟨Q,M,R,h1,h2,h3,h4⟩,⟨k1,k2,k3⟩,⟨h6,h7,h8,h9⟩,h10⟩:=h;have hf:okFM l.page:=⟨Q,M,R,h1,o_,o_,o_⟩;have hp:=Do (Ev hf);have hn:=V5 h10;have hl:=Ac Af l.parts;refine⟨⟨⟨by have:=hn.1;omega,h7,o_⟩,k3,Q,M,R,h1,o_,o_,o_⟩,⟨⟨⟨hf,k1.1,o_⟩,k1.2.1,k1.2.2,o_⟩,⟨h7,h6⟩,⟨o_,h9⟩,hn⟩,⟨hn,⟨hp.1,λt ht=>?_,o_⟩,o_,h7,o_⟩,⟨⟨Q,M,R,h1,o_,o_,o_⟩,⟨h6,h7,o_⟩,AiH h10⟩,o_⟩;have:=h1.1.1 t ht;omega
def AfM {l:Sc_}:(arrPage l).addr=l.page.addr:=by
 unfold arrPage;have e:(arriveText l.page (l.parts.getD 0 default)).addr=l.page.addr:=by unfold arriveText;split<;>rfl
 split
 ·refine Eq.trans ?_ e;unfold endPage;split<;>rfl
 ·exact e
def Ac4 {G:Nat} {l:Sc_} (h:okL (G+1) l):okL G (arrivePart l).1:=by
 by_cases hp:l.parts.length=0
 ·rw[ZT hp];exact G9 h
 ·rw[MJ hp];obtain⟨⟨Q,M,R,h1,h2,h3,h4⟩,⟨k1,k2,k3⟩,⟨h6,h7,h8,h9⟩,h10⟩:=h;have hg:=drop_cons (l:=l.parts) (i:=0) o_;have hz:szL Af l.parts=(l.parts.getD 0 default).size+1+szL Af (l.parts.drop 1):=by have e:szL Af l.parts=szL Af (l.parts.drop 0):=rfl;rw[e,hg,Av]
  obtain⟨a1,a2,a3⟩:=Adu h1 o_;have hk:Kp (arrPage l):=by
   unfold arrPage;split
   ·exact AhX (Aht k1 _)
   ·exact Aht k1 _
  have et:(advance (arrPage l)).tok=(arrPage l).tok:=S7 2000 _;have ea:(advance (arrPage l)).addr=l.page.addr:=(Pg 2000 _).trans AfM;refine⟨⟨_,_,_,Ol a2,by dsimp only;omega,by dsimp only;omega,by dsimp only;omega⟩,⟨Afa 2000 _ hk,by dsimp only;rw[ea];exact k2,by dsimp only;rw[et];omega⟩,⟨h6,h7,by dsimp only;omega,h9⟩,Kv h10⟩
def YI {l:List Sj_} {a:Sb_} {x:Sd_} {g:Bool} (h:okCs l) (ha:szAddr a<=4000000) (hx:Ad x<=1048576):okCs (openConn l a x g).1/\(openConn l a x g).1.length<=l.length+1/\((openConn l a x g).1.length<=3\/(openConn l a x g).1.length<=l.length)/\wCs (openConn l a x g).1<=wCs l+400:=by
 unfold openConn;split
 ·exact⟨h,Nat.le_succ _,.inr (Qa7 _),Qc6 _ _⟩
 ·rename_i q;refine⟨λc hc=>?_,by simp only[Qa4,Qa6,Qb7];omega,.inl (by simp only[Qa4,Qa6,Qb7];omega),?_⟩
  ·rcases Qb8.1 hc with q|q
   ·exact h c q
   ·rw[List.mem_singleton.1 q];exact⟨hx,ha⟩
  ·unfold wCs;simp only[List.map_append,Qc7,List.map_nil,List.sum_append,List.sum_cons,List.sum_nil];have:wB x<=400:=Nat.min_le_left _ _;omega
def Afh {l:List Sp_} (h:okGs l) (a:Sb_):okGs (useGuess l a).1/\(useGuess l a).1.length=l.length:=by
 unfold useGuess;split
 ·exact⟨h,rfl⟩
 ·refine⟨λg hg=>?_,List.length_modify ..⟩;rcases Kt hg with q|⟨z,h1,h2⟩
  ·exact h g q
  ·rw[h2];exact h z h1
def Yx {G:Nat} {l:Sc_} (h:okL (G+1) l):okL G (requestNext l).1:=by
 have hm:=G9 h;obtain⟨⟨Q,M,R,h1,h2,h3,h4⟩,⟨k1,k2,k3⟩,⟨h6,h7,h8,h9⟩,h10⟩:=h;have hn:=V5 h10;unfold requestNext;split
 ·exact hm
 ·rename_i hk;have ht:=AaZ (l:=l) k1.1 o_;split
  ·obtain⟨g1,g2⟩:=Afh h9 (reqTo l);have hw:wB (useGuess l.guesses (reqTo l)).2.1<=400:=Nat.min_le_left _ _;have et:(takeAnswer l.page (reqTo l) (useGuess l.guesses (reqTo l)).2.1).tok=l.page.tok:=Nz ..;have ea:(takeAnswer l.page (reqTo l) (useGuess l.guesses (reqTo l)).2.1).addr=l.page.addr:=Hh ..;exact⟨⟨_,_,_,JY h1 (reqTo l) (useGuess l.guesses (reqTo l)).2.1,by dsimp only;omega,by dsimp only;omega,by dsimp only;omega⟩,⟨PU k1 _ _,by dsimp only;rw[ea];exact k2,by dsimp only;rw[et];exact k3⟩,⟨h6,h7,by dsimp only;omega,g1⟩,keep_ng (Kv h10) _ _ _⟩
  ·split
   ·exact hm
   ·obtain⟨o1,o2,o3,o4⟩:=YI (g:=false) h6 ht (EF (t:=l.page.addr.host) (a:=reqTo l) (g:=false) hn);exact⟨⟨Q,M,R,h1,by dsimp only;omega,by dsimp only;omega,by dsimp only;omega⟩,⟨k1,k2,k3⟩,⟨o1,by dsimp only;omega,by dsimp only;omega,h9⟩,PK h10 _ _ k2⟩
def AdX {G:Nat} {l:Sc_} (h:okL (G+1) l):∀ m:List Sb_,(∀ a,a∈m->szAddr a<=16)->okL G (nextGuess l m).1
 | [],_=>G9 h
 | a::m,hm=>by
  rw[nextGuess];split
  ·exact AdX h m λb hb=>hm b (Qc4 _ hb)
  ·obtain⟨⟨Q,M,R,h1,h2,h3,h4⟩,⟨k1,k2,k3⟩,⟨h6,h7,h8,h9⟩,h10⟩:=h;have ha:=hm a Qd7;obtain⟨o1,o2,o3,o4⟩:=YI (g:=true) h6 (show szAddr a<=4000000 from o_) (EF (t:=l.page.addr.host) (a:=a) (g:=true) (V5 h10));exact⟨⟨Q,M,R,h1,by dsimp only;omega,by dsimp only;omega,by dsimp only;omega⟩,⟨k1,k2,k3⟩,⟨o1,by dsimp only;omega,by dsimp only;omega,h9⟩,PK h10 _ _ k2⟩
def Afq {G:Nat} {l:Sc_} (h:okL (G+1) l):okL G (guessNext l).1:=by
 unfold guessNext;split
 ·exact G9 h
 ·refine AdX h _ λa ha=>?_
  obtain⟨i,hi,he⟩:=List.mem_iff_getElem.1 ha;have:=Gi (p:=l.page) hi;rw[Qb2,Qa5 hi,he] at this;exact this
def AfB {l:List Sp_} {a:Sb_} {x:Sd_} (h:okGs l) (hx:Ad x<=1048576):okGs (addGuess l a x).1:=by
 unfold addGuess;split
 ·exact h
 ·intro g hg;rcases Qb8.1 hg with q|q
  ·exact h g q
  ·rw[List.mem_singleton.1 q];exact hx
def Abd {G:Nat} {l:Sc_} {k:Int} (h:okL G l) (h0:0<=k) (hk:k<l.conns.length):okL G (finish1 l k):=by
 obtain⟨⟨Q,M,R,h1,h2,h3,h4⟩,⟨k1,k2,k3⟩,⟨h6,h7,h8,h9⟩,h10⟩:=h;have c1:=HK h0 hk;have c2:=Rn h0 hk;have c3:=UE h0 hk h6;have ha:=JY h1 (l.conns.getD k.toNat default).to (l.conns.getD k.toNat default).bd;have hg:=UR l.guesses (l.conns.getD k.toNat default).to (l.conns.getD k.toNat default).bd;have hr:=(h6 _ (A7 (show k.toNat<l.conns.length from o_))).1;have hgo:=AfB (a:=(l.conns.getD k.toNat default).to) h9 hr;have et:(takeAnswer l.page (l.conns.getD k.toNat default).to (l.conns.getD k.toNat default).bd).tok=l.page.tok:=Nz ..;have ea:(takeAnswer l.page (l.conns.getD k.toNat default).to (l.conns.getD k.toNat default).bd).addr=l.page.addr:=Hh ..;unfold finish1 finishC;dsimp only;split
 ·split
  ·exact⟨⟨_,_,_,ha,by dsimp only;omega,by dsimp only;omega,by dsimp only;omega⟩,⟨PU k1 _ _,by dsimp only;rw[ea];exact k2,by dsimp only;rw[et];exact k3⟩,⟨c3,by dsimp only;omega,by dsimp only;omega,h9⟩,keep_ng h10 _ _ _⟩
  ·exact⟨⟨_,_,_,ha,by dsimp only;omega,by dsimp only;omega,by dsimp only;omega⟩,⟨PU k1 _ _,by dsimp only;rw[ea];exact k2,by dsimp only;rw[et];exact k3⟩,⟨c3,by dsimp only;omega,by dsimp only;omega,h9⟩,h10⟩
 ·split
  ·exact⟨⟨_,_,_,h1,by dsimp only;omega,by dsimp only;omega,by dsimp only;omega⟩,⟨k1,k2,k3⟩,⟨c3,by dsimp only;omega,by dsimp only;omega,hgo⟩,h10⟩
  ·exact⟨⟨_,_,_,h1,by dsimp only;omega,by dsimp only;omega,by dsimp only;omega⟩,⟨k1,k2,k3⟩,⟨c3,by dsimp only;omega,by dsimp only;omega,h9⟩,h10⟩
def Ad3 {G:Nat}:∀ (n:Nat) (l:Sc_),okL G l->okL G (xfer n l)
 | 0,l,h=>h
 | n+1,l,h=>by
  rw[xfer];split
  ·exact h
  ·have hd:=Ef l.conns 0 o_;exact Ad3 n _ (Abd h o_ o_)
def Af7 {G:Nat} {l:Sc_} (h:okL G l) (b:Int):okL G (moved l b):=by
 obtain⟨⟨Q,M,R,h1,h2,h3,h4⟩,⟨k1,k2,k3⟩,⟨h6,h7,h8,h9⟩,h10⟩:=h;have e1:=Dm l.conns b;have e2:=AdW l.conns b;unfold moved;exact⟨⟨Q,M,R,h1,by dsimp only;omega,by dsimp only;omega,by dsimp only;omega⟩,⟨k1,k2,k3⟩,⟨Aag b h6,by dsimp only;omega,by dsimp only;omega,h9⟩,h10⟩
def Oc {G:Nat} {l:Sc_} (h:okL G l) (b:Int):okL G (transfer l b).1:=by
 unfold transfer;split
 ·exact h
 ·exact Ad3 _ _ (Af7 h b)
def Aia {G:Nat} {l:Sc_} (h:okL (G+1) l) (n:Int):okL G (actOf l n).1:=by
 unfold actOf;split
 ·exact Ac4 h
 ·split
  ·exact Yx h
  ·split
   ·exact Afq h
   ·split
    ·exact Oc (G9 h) 20
    ·exact Oc (G9 h) 200
def Za {G:Nat} {l:Sc_} (h:okL (G+1) l) (c:Int):∀ n,okL G (stepR l c n).1
 | 0=>G9 h
 | n+1=>by
  rw[stepR];split
  ·exact Aia h _
  ·exact Za h c n
def QP {G:Nat} {l:Sc_} (h:okL (G+1) l) (c:Int):okL G (stepLoad l c).1:=Za h c 5
def finL (l:Sc_):Bool:=l.page.loaded&&decide (l.parts.length=0)
def stepTo (l:Sc_) (c:Int):Sc_:=(stepLoad l c).1
def runB:Nat->Sc_->Sc_
 | 0,l=>l
 | n+1,l=>if finL l=true then l else if(stepLoad l 0).2=true then runB n (stepTo l 0) else l
def runLoad (l:Sc_) (cs:List Int):Sc_:=runB 1000 ((cs.take 100).foldl stepTo l)
def Y0 {G H:Nat} {l:Sc_} (h:okL H l) (hle:G<=H):okL G l:=by
 obtain⟨⟨Q,M,R,h1,h2,h3,h4⟩,h5,⟨h6,h7,h8,h9⟩,n1,n2,n3,n4⟩:=h;exact⟨⟨Q,M,R,h1,o_,o_,o_⟩,h5,⟨h6,h7,o_,h9⟩,n1,n2,n3,o_⟩
def Ik {G:Nat} {l:Sc_} (h:okL G l):szNet l.net<=68719476736/\szPage l.page<=1099511627776/\l.parts.length<=1000000000/\l.conns.length<=1048576/\l.guesses.length<=4194304:=Jv (Kl h).2.2.2.1 (Kl h).2.2.2.2
def Ae2 {cs:List Int} {i:Nat} {o T:Sc_} (h:((cs.take 100).drop i).foldl stepTo o=T) (hi:i<(cs.take 100).length):((cs.take 100).drop (i+1)).foldl stepTo (stepLoad o (cs.getD i default)).1=T:=by
 rw[drop_cons hi,Qg7] at h;have e:(cs.take 100).getD i default=cs.getD i default:=by rw[Qc0] at hi;rw[Qb2,Qb2,List.getElem?_take_of_lt o_]
 rw[e] at h;exact h
def Aba {cs:List Int} {i:Nat} {o T:Sc_} (h:((cs.take 100).drop i).foldl stepTo o=T) (hi:i<(cs.take 100).length):((cs.take 100).drop (i+1)).foldl stepTo (stepLoad o ((cs.take 100).getD i default)).1=T:=by
 rw[drop_cons hi,Qg7] at h;exact h
def Ua {cs:List Int} {i:Nat} {o T:Sc_} (h:((cs.take 100).drop i).foldl stepTo o=T) (hi:(cs.take 100).length<=i):o=T:=by
 rw[Qb1 hi] at h;exact h
def UP {l:Sc_} (h:finL l=true):∀ n,runB n l=l
 | 0=>rfl
 | n+1=>by rw[runB,Qa1 h]
def ZR {l:Sc_} (h:finL l=false) (h2:(stepLoad l 0).2=false):∀ n,runB n l=l
 | 0=>rfl
 | n+1=>by rw[runB,Qa3 (by rw[h];decide),Qa3 (by rw[h2];decide)]
def Yo {l:Sc_} {n:Nat} (h:finL l=false) (h2:(stepLoad l 0).2=true):runB (n+1) l=runB n (stepLoad l 0).1:=by
 rw[runB,Qa3 (by rw[h];decide),Qa1 h2];rfl
def Ads {l T:Sc_} {i:Int} (h:runB (1000-i.toNat) l=T) (hi:1000<=i):l=T:=by
 rw[show 1000-i.toNat=0 from o_] at h;exact h
def AdK (cs:List Int):∀ {i:Decidable ((cs.length:Int)<100)},cut cs 0 ((@ite _ ((cs.length:Int)<100) i (cs.length:Int) 100).toNat-0)=cs.take 100:=by
 intro i;unfold cut;rw[Qe7];split
 ·rw[Qb0 o_,Qb0 o_]
 ·rfl
def Fz:Fct:=⟨[.v (.el .loader),.v (.sl .int)],[.el .loader],λ(x_:Sc_×(List Int)×Unit)=>okL 1100 x_.1/\x_.2.1.length<=1048576,λ(x_:Sc_×(List Int)×Unit)=>(runLoad x_.1 x_.2.1,())⟩
abbrev DI (l:Sc_) (cs:(List Int)):LInv:=⟨[⟨.b,5,true,.el .loader⟩,⟨.s,6,true,.el .int⟩,⟨.b,4,true,.el .loader⟩],λ(z_ x_:Sc_×Int×Sc_×Unit)=>(0<=x_.2.1/\x_.2.1<=(cs.take 100).length/\((cs.take 100).drop x_.2.1.toNat).foldl stepTo x_.1=(cs.take 100).foldl stepTo l/\okL (1100-x_.2.1.toNat) x_.1)/\x_.2.2.1=z_.2.2.1,λ(x_:Sc_×Int×Sc_×Unit)=>100-x_.2.1.toNat⟩
abbrev Du (l:Sc_) (cs:(List Int)):LInv:=⟨[⟨.b,5,true,.el .loader⟩,⟨.s,9,true,.el .int⟩,⟨.b,4,true,.el .loader⟩],λ(z_ x_:Sc_×Int×Sc_×Unit)=>(0<=x_.2.1/\x_.2.1<=1000/\runB (1000-x_.2.1.toNat) x_.1=runLoad l cs/\okL (1000-x_.2.1.toNat) x_.1)/\x_.2.2.1=z_.2.2.1,λ(x_:Sc_×Int×Sc_×Unit)=>1000-x_.2.1.toNat⟩
def AmY:=Ana.a Fz<|Fct.p (KP [1,2,4,5,6,7,9,10,11] [21,40,49]) (λ⟨l,cs,_⟩=>λ|3=>some (DI l cs)|8=>some (Du l cs)|_=>none) Ana.2 func23 (by
 rintro⟨(l:Sc_),(cs:List Int),_⟩ hp;refine ho (.cl fCopyLoader (l,()) λz2=>lpx (DI l cs) (z2.1,((0:Int),(default,()))) λ(y2:Sc_×Int×Sc_×PUnit) bk2=>let q0_:=lpx (Du l cs) (y2.1,((0:Int),(y2.2.2.1,()))) λ(y8:Sc_×Int×Sc_×PUnit) bk8=>let q1_:Out:=.lf Fz (y8.1,());.br (decide (y8.2.1<1000)) (.cl Cp (y8.1,()) λz4=>.br (!z4.1) (.cl CS (y8.1,(0:Int),()) λz5=>.br (!z5.2.1) q1_ (.ob (Value.int IntKind.i64 y2.2.1=Value.int IntKind.i64 y2.2.1)<|.ob (cs=cs)<|.ob (bk8 (z5.1,(w1 y8.2.1,(y8.2.2.1,()))))<|.ok)) q1_) q1_;.br (decide (y2.2.1<(cs.length:Int))) (.br (decide (y2.2.1<100)) (.ob (inB y2.2.1 cs.length)<|.cl CS (y2.1,cs.getD y2.2.1.toNat default,()) λz3=>.ob (cs=cs)<|.ob (bk2 (z3.1,(w1 y2.2.1,(y2.2.2.1,()))))<|.ok) q0_) q0_) ?_;refine Ae ?_ λ_=>(Ai ?_ λ(y2:Sc_×Int×Sc_×PUnit) i2=>Ab (λh3=>Ab (λh4=>Aa ?_ λ_=>Ae ?_ λ_=>(Aa rfl λ_=>Aa ?_ λ_=>trivial)) (λh4=>Ai ?_ λ(y8:Sc_×Int×Sc_×PUnit) i8=>Ab (λh9=>Ae trivial λ_=>(Ab (λh10=>Ae ?_ λ_=>(Ab (λh12=>lfY ?_) (λh12=>Aa rfl λ_=>Aa rfl λ_=>Aa ?_ λ_=>trivial))) (λh10=>lfY ?_))) (λh9=>lfY ?_))) (λh3=>Ai ?_ λ(y14:Sc_×Int×Sc_×PUnit) i14=>Ab (λh15=>Ae trivial λ_=>(Ab (λh16=>Ae ?_ λ_=>(Ab (λh18=>lfY ?_) (λh18=>Aa rfl λ_=>Aa rfl λ_=>Aa ?_ λ_=>trivial))) (λh16=>lfY ?_))) (λh15=>lfY ?_)))
 all_goals obtain⟨q1,q2⟩:=(show okL 1100 l/\cs.length<=1048576 from hp)
 all_goals try simp only[DI,Du,fCopyLoader,Cp,Fz,CS,std,Nat.reduceAdd] at *
 all_goals have hk:(cs.take 100).length=min 100 cs.length:=Qc0 ..
 all_goals first|trivial|omega|exact Ik q1|exact⟨o_,o_,rfl,q1⟩|exact⟨o_,o_,q1⟩|skip
 all_goals (obtain⟨⟨a1,a2,a3,a4⟩,e1⟩:=i2)
 all_goals first|omega|exact Kl a4|exact Ik a4|skip
 all_goals first|(rw[Ag o_,show(y2.2.1+1).toNat=y2.2.1.toNat+1 from o_];rw[show 1100-y2.2.1.toNat=1100-(y2.2.1.toNat+1)+1 from o_] at a4;exact⟨⟨⟨o_,o_,Ae2 a3 o_,QP a4 _⟩,e1⟩,o_⟩)|skip
 all_goals have hT:=Ua a3 o_
 all_goals first|exact⟨o_,o_,(show runB 1000 _=_ by unfold runLoad;rw[<-hT]),Y0 a4 o_⟩|skip
 all_goals first|(obtain⟨⟨b1,b2,b3,b4⟩,f1⟩:=i8;obtain⟨yo,yi,yz⟩:=y8)|(obtain⟨⟨b1,b2,b3,b4⟩,f1⟩:=i14;obtain⟨yo,yi,yz⟩:=y14)
 all_goals dsimp only at *
 all_goals first|omega|exact Kl b4|exact Ik b4|exact Ads b3 o_|(rw[UP ‹_›] at b3;exact b3)|(rw[ZR ‹_› ‹_›] at b3;exact b3)|skip
 all_goals rw[Ag o_,show(yi+1).toNat=yi.toNat+1 from o_]
 all_goals rw[show 1000-yi.toNat=1000-(yi.toNat+1)+1 from o_] at b3 b4
 all_goals rw[Yo ‹_› ‹_›] at b3
 all_goals exact⟨⟨⟨o_,o_,b3,QP b4 _⟩,f1⟩,o_⟩)
abbrev DB (l:Sc_) (cs:(List Int)):LInv:=⟨[⟨.b,5,true,.el .loader⟩,⟨.s,19,true,.el .int⟩,⟨.b,4,true,.el .loader⟩],λ(z_ x_:Sc_×Int×Sc_×Unit)=>(0<=x_.2.1/\x_.2.1<=(cs.take 100).length/\((cs.take 100).drop x_.2.1.toNat).foldl stepTo x_.1=(cs.take 100).foldl stepTo l/\okL (1100-x_.2.1.toNat) x_.1)/\x_.2.2.1=z_.2.2.1,λ(x_:Sc_×Int×Sc_×Unit)=>100-x_.2.1.toNat⟩
abbrev Dw (l:Sc_) (cs:(List Int)):LInv:=⟨[⟨.b,5,true,.el .loader⟩,⟨.s,8,true,.el .int⟩,⟨.b,4,true,.el .loader⟩],λ(z_ x_:Sc_×Int×Sc_×Unit)=>(0<=x_.2.1/\x_.2.1<=1000/\runB (1000-x_.2.1.toNat) x_.1=runLoad l cs/\okL (1000-x_.2.1.toNat) x_.1)/\x_.2.2.1=z_.2.2.1,λ(x_:Sc_×Int×Sc_×Unit)=>1000-x_.2.1.toNat⟩
def Alg:=AmY.a Fz<|Fct.p (KP [1,2,4,5,7,8,9,10,17,18,19] [20,36,45]) (λ⟨l,cs,_⟩=>λ|3=>some (DB l cs)|8=>some (Dw l cs)|_=>none) AmY.2 func28 (by
 rintro⟨(l:Sc_),(cs:List Int),_⟩ hp;refine ho (let q2_:=(cs.length:Int);let q5_:=if q2_<100 then q2_ else(100:Int);let q0_:=q5_.toNat-0;let q6_:=cut cs 0 q0_=cut cs 0 q0_;let q1_:=(↑(cut cs 0 q0_).length:Int);let q3_:=Value.int IntKind.i64 q1_=Value.int IntKind.i64 q1_;.cl fCopyLoader (l,()) λz2=>.ob ((0<=if q2_<100 then q2_ else(100:Int))/\q5_<=q2_)<|lpx (DB l cs) (z2.1,((0:Int),(default,()))) λ(y3:Sc_×Int×Sc_×PUnit) bk3=>.br (decide (y3.2.1<q1_)) (.ob (0<=y3.2.1/\y3.2.1<q1_)<|.cl CS (y3.1,(cut cs 0 q0_).getD y3.2.1.toNat default,()) λz3=>.ob (cs=cs)<|.ob q6_<|.ob q3_<|.ob (bk3 (z3.1,(w1 y3.2.1,(y3.2.2.1,()))))<|.ok) (lpx (Dw l cs) (y3.1,((0:Int),(y3.2.2.1,()))) λ(y8:Sc_×Int×Sc_×PUnit) bk8=>let q4_:Out:=.lf Fz (y8.1,());.br (decide (y8.2.1<1000)) (.cl Cp (y8.1,()) λz4=>.br (!z4.1) (.cl CS (y8.1,(0:Int),()) λz5=>.br (!z5.2.1) q4_ (.ob (Value.int IntKind.i64 y3.2.1=Value.int IntKind.i64 y3.2.1)<|.ob (cs=cs)<|.ob q6_<|.ob q3_<|.ob (bk8 (z5.1,(w1 y8.2.1,(y8.2.2.1,()))))<|.ok)) q4_) q4_)) ?_;refine Ae ?_ λ_=>(Aa ?_ λ_=>Ai ?_ λ(y3:Sc_×Int×Sc_×PUnit) i3=>Ab (λh4=>Aa ?_ λ_=>Ae ?_ λ_=>(Aa rfl λ_=>Aa rfl λ_=>Aa rfl λ_=>Aa ?_ λ_=>trivial)) (λh4=>Ai ?_ λ(y8:Sc_×Int×Sc_×PUnit) i8=>Ab (λh9=>Ae trivial λ_=>(Ab (λh10=>Ae ?_ λ_=>(Ab (λh12=>lfY ?_) (λh12=>Aa rfl λ_=>Aa rfl λ_=>Aa rfl λ_=>Aa rfl λ_=>Aa ?_ λ_=>trivial))) (λh10=>lfY ?_))) (λh9=>lfY ?_)))
 all_goals obtain⟨q1,q2⟩:=(show okL 1100 l/\cs.length<=1048576 from hp)
 all_goals
  try simp only[AdK] at *
  try simp only[DB,Dw,fCopyLoader,Cp,Fz,CS,std,Nat.reduceAdd] at *
  try simp only[AdK] at *
 all_goals have hk:(cs.take 100).length=min 100 cs.length:=Qc0 ..
 all_goals first|trivial|omega|exact Ik q1|exact⟨o_,o_,rfl,q1⟩|exact⟨o_,o_,q1⟩|skip
 all_goals (obtain⟨⟨a1,a2,a3,a4⟩,e1⟩:=i3)
 all_goals first|omega|exact Kl a4|exact Ik a4|skip
 all_goals first|(rw[Ag o_,show(y3.2.1+1).toNat=y3.2.1.toNat+1 from o_];rw[show 1100-y3.2.1.toNat=1100-(y3.2.1.toNat+1)+1 from o_] at a4;exact⟨⟨⟨o_,o_,Aba a3 o_,QP a4 _⟩,e1⟩,o_⟩)|skip
 all_goals have hT:=Ua a3 o_
 all_goals first|exact⟨o_,o_,(show runB 1000 _=_ by unfold runLoad;rw[<-hT]),Y0 a4 o_⟩|skip
 all_goals first|(obtain⟨⟨b1,b2,b3,b4⟩,f1⟩:=i8;obtain⟨yo,yi,yz⟩:=y8)|(obtain⟨⟨b1,b2,b3,b4⟩,f1⟩:=i14;obtain⟨yo,yi,yz⟩:=y14)
 all_goals dsimp only at *
 all_goals first|omega|exact Kl b4|exact Ik b4|exact Ads b3 o_|(rw[UP ‹_›] at b3;exact b3)|(rw[ZR ‹_› ‹_›] at b3;exact b3)|skip
 all_goals rw[Ag o_,show(yi+1).toNat=yi.toNat+1 from o_]
 all_goals rw[show 1000-yi.toNat=1000-(yi.toNat+1)+1 from o_] at b3 b4
 all_goals rw[Yo ‹_› ‹_›] at b3
 all_goals exact⟨⟨⟨o_,o_,b3,QP b4 _⟩,f1⟩,o_⟩)
def wS (l:Sc_):Nat:=szL FV l.conns+szL EV l.guesses
def AeX (l:List Sp_) (a:Sb_):szL EV (useGuess l a).1=szL EV l:=by
 unfold useGuess;split
 ·rfl
 ·have key:∀ (m:List Sp_) (i:Nat),szL EV (m.modify i λg=>{ g with used:=true })=szL EV m:=by
   intro m
   induction m with
   | nil=>intro i;cases i<;>rfl
   | cons g m ih=>
    intro i;cases i with
    | zero=>show szL EV (_::m)=_;rw[Av,Av];rfl
    | succ i=>show szL EV (g::m.modify i _)=_;rw[Av,Av,ih]
  exact key _ _
def VE {G:Nat} {l:Sc_} (h:okL (G+1) l):wS (requestNext l).1<=wS l+5100000:=by
 obtain⟨⟨Q,M,R,h1,h2,h3,h4⟩,⟨k1,k2,k3⟩,⟨h6,h7,h8,h9⟩,h10⟩:=h;unfold requestNext;split
 ·exact Qc6 _ _
 ·rename_i hk;have ht:=AaZ (l:=l) k1.1 o_;split
  ·have e:=AeX l.guesses (reqTo l);unfold wS;dsimp only;omega
  ·split
   ·exact Qc6 _ _
   ·have o:=Z2 l.conns (reqTo l) (fetchNow l.net l.page.addr.host (reqTo l) false).2 false;have r:=EF (t:=l.page.addr.host) (a:=reqTo l) (g:=false) (V5 h10);unfold wS;dsimp only;omega
def Xi {G:Nat} {l:Sc_} (h:okL (G+1) l):∀ m:List Sb_,(∀ a,a∈m->szAddr a<=16)->wS (nextGuess l m).1<=wS l+5100000
 | [],_=>Qc6 _ _
 | a::m,hm=>by
  rw[nextGuess];split
  ·exact Xi h m λb hb=>hm b (Qc4 _ hb)
  ·obtain⟨_,_,_,h10⟩:=h;have ha:=hm a Qd7;have o:=Z2 l.conns a (fetchNow l.net l.page.addr.host a true).2 true;have r:=EF (t:=l.page.addr.host) (a:=a) (g:=true) (V5 h10);unfold wS;dsimp only;omega
def AbE {G:Nat} {l:Sc_} (h:okL (G+1) l):wS (guessNext l).1<=wS l+5100000:=by
 unfold guessNext;split
 ·exact Qc6 _ _
 ·refine Xi h _ λa ha=>?_
  obtain⟨i,hi,he⟩:=List.mem_iff_getElem.1 ha;have:=Gi (p:=l.page) hi;rw[Qb2,Qa5 hi,he] at this;exact this
def W5:∀ (n:Nat) (l:Sc_),wS (xfer n l)<=wS l
 | 0,l=>Qa7 _
 | n+1,l=>by
  rw[xfer];split
  ·exact Qa7 _
  ·have hd:=Ef l.conns 0 o_;exact Qd8 (W5 n _) (AgR o_ o_)
def Nb (l:Sc_) (b:Int):wS (transfer l b).1<=wS l:=by
 unfold transfer;split
 ·exact Qa7 _
 ·refine Qd8 (W5 _ _) ?_;have:=AeL l.conns b;unfold wS moved;dsimp only;omega
def AhG {G:Nat} {l:Sc_} (h:okL (G+1) l) (n:Int):wS (actOf l n).1<=wS l+5100000:=by
 unfold actOf;split
 ·unfold arrivePart;split
  ·exact Qc6 _ _
  ·exact Qc6 _ _
 ·split
  ·exact VE h
  ·split
   ·exact AbE h
   ·split
    ·exact Qd8 (Nb l 20) (Qc6 _ _)
    ·exact Qd8 (Nb l 200) (Qc6 _ _)
def Xm {G:Nat} {l:Sc_} (h:okL (G+1) l) (c:Int):∀ n,wS (stepR l c n).1<=wS l+5100000
 | 0=>Qc6 _ _
 | n+1=>by
  rw[stepR];split
  ·exact AhG h _
  ·exact Xm h c n
def okW (G:Nat) (l:Sc_):Prop:=okL G l/\wS l+5100000*G<=10000000000
def AdH {G:Nat} {l:Sc_} (h:okW (G+1) l) (c:Int):okW G (stepLoad l c).1:=by
 have:=Xm h.1 c 5;have h2:=h.2;exact⟨QP h.1 c,by unfold stepLoad;omega⟩
def AdA:∀ (cs:List Int) (G:Nat) (l:Sc_),okW (G+cs.length) l->okW G (cs.foldl stepTo l)
 | [],G,l,h=>h
 | c::cs,G,l,h=>by rw[Qg7];refine AdA cs G _ (AdH (G:=G+cs.length) ?_ c);rw[Qa6] at h;exact h
def Ov {G H:Nat} {l:Sc_} (h:okW H l) (hle:G<=H):okW G l:=⟨Y0 h.1 hle,by have:=h.2;omega⟩
def AdN:∀ (n:Nat) (l:Sc_),okW n l->okW 0 (runB n l)
 | 0,l,h=>h
 | n+1,l,h=>by
  rw[runB];split
  ·exact Ov h o_
  ·split
   ·exact AdN n _ (AdH h 0)
   ·exact Ov h o_
def AiG {l:Sc_} (h:okW 1100 l) (cs:List Int):okW 0 (runLoad l cs):=by
 unfold runLoad;refine AdN 1000 _ (AdA _ _ _ (Ov h ?_));rw[Qc0];omega
def Adr {l:Sc_} (h:okW 0 l):Uu l<=1125899906842624/\szNet l.net<=8000000000/\szPage l.page<=1000000000000:=by
 obtain⟨hl,hw⟩:=h;obtain⟨⟨Q,M,R,h1,h2,h3,h4⟩,⟨k1,k2,k3⟩,⟨h6,h7,h8,h9⟩,h10⟩:=hl;have hp:=Im h1 o_ o_ o_;have hn:=(V5 h10).1;refine⟨?_,hn,hp⟩;unfold wS at hw;unfold Uu;omega
def AeU (a:Sb_) (x:Sd_):okAll (newPage a x).1 2000000 1100000000 10000000/\Kp (newPage a x).1/\(newPage a x).1.addr.host.size<=2097152/\(newPage a x).1.tok.rest.size=0/\((newPage a x).2=true->isResponse x=true):=by
 unfold newPage;split
 ·rename_i h;obtain⟨h0,h1,_⟩:=h;rw[Qa2] at h0;have a1:=FM h0.1;have a2:=FM h0.2;have h2:=Ju h1;have hp:=AcM x.bj;have hx:x.bj.size<=Ad x:=Nat.le_add_left _ _;refine⟨RW ?_,⟨⟨(λs hs=>nomatch (show s∈[] from hs)),(λs hs=>nomatch (show s∈[] from hs))⟩,(by decide:(-9223372036854775808:Int)<=0),(by decide:(0:Int)<=9223372036854775807)⟩,?_,rfl,λ_=>h1⟩
  ·show szAddr a+szPolicy (parsePolicy x.bj).1+_+_+szBuilder newBuilder+_+_+_+_+_<=2000000;have e2:szBuilder newBuilder<=100:=by decide
   simp only[Dv,szL,List.map_nil,List.sum_nil,Qb7,szAddr];have e3:ByteArray.size (default:So_).rest=0:=rfl;omega
  ·show a.host.size<=2097152;omega
 ·refine⟨RW (by decide),⟨⟨(λs hs=>nomatch (show s∈[] from hs)),(λs hs=>nomatch (show s∈[] from hs))⟩,(by decide:(-9223372036854775808:Int)<=0),(by decide:(0:Int)<=9223372036854775807)⟩,(by decide),rfl,λh=>by cases h⟩
def AfS {n:Ss_} (h:szNet n<=1048576):okNg 1201 n:=by
 simp only[szNet] at h;refine⟨o_,o_,λe he=>?_,o_⟩;have:=HS AM (show e∈n.cache.bg from he);simp only[szCache] at h;simp only[AM] at this;omega
def Aav {n:Ss_} {a:Sb_} (cs:List Int) (h:szNet n<=1048576) (ha:szAddr a<=1048576):okW 1100 (startLoad n a cs).1:=by
 have hh:a.host.size<=szAddr a:=Qc6 _ _;have hf:=PK (AfS h) (t:=a.host) a false o_;obtain⟨p1,p2,p3,p4,p5⟩:=AeU a (fetchNow n a.host a false).2;have hcs:okCs []:=λc hc=>nomatch hc
 have hgs:okGs []:=λc hc=>nomatch hc
 unfold startLoad;split
 ·rename_i hb;have hr:=Ju (p5 hb);have hc:=VI (fetchNow n a.host a false).2.body cs;have hx:(fetchNow n a.host a false).2.body.size<=Ad (fetchNow n a.host a false).2:=Qc6 _ _;refine Ov (H:=1200) ⟨⟨⟨_,_,_,p1,?_,?_,?_⟩,⟨p2,p3,?_⟩,⟨hcs,?_,?_,hgs⟩,hf⟩,?_⟩ o_
  ·show 2000000+740000*0+8000000*1200<=889000000000;omega
  ·show 1100000000+600*0+250000*1200<=48000000000;omega
  ·show 10000000+20*0+10000*1200<=18000000000;omega
  ·show(newPage a (fetchNow n a.host a false).2).1.tok.rest.size+szL Af (cutText (fetchNow n a.host a false).2.body cs)<=2900000;omega
  ·show 0<=1048576;omega
  ·show 0+0+1200<=4194304;omega
  ·show 0+0+5100000*1200<=10000000000;omega
 ·refine Ov (H:=1200) ⟨⟨⟨2000000,1100000000,10000000,RW (show szPage (default:Sa_)<=2000000 by decide),?_,?_,?_⟩,⟨⟨⟨(λs hs=>nomatch (show s∈[] from hs)),(λs hs=>nomatch (show s∈[] from hs))⟩,(by decide:(-9223372036854775808:Int)<=0),(by decide:(0:Int)<=9223372036854775807)⟩,(show(default:Sa_).addr.host.size<=2097152 by decide),(show(default:Sa_).tok.rest.size+szL Af []<=2900000 by decide)⟩,⟨hcs,?_,?_,hgs⟩,hf⟩,?_⟩ o_
  ·show 2000000+740000*0+8000000*1200<=889000000000;omega
  ·show 1100000000+600*0+250000*1200<=48000000000;omega
  ·show 10000000+20*0+10000*1200<=18000000000;omega
  ·show 0<=1048576;omega
  ·show 0+0+1200<=4194304;omega
  ·show 0+0+5100000*1200<=10000000000;omega
def loadFast (n:Ss_) (a:Sb_) (cs ch:List Int):Ss_×Sa_×Bool:=if(startLoad n a cs).2=true then((runLoad (startLoad n a cs).1 ch).net,(runLoad (startLoad n a cs).1 ch).page,true) else((startLoad n a cs).1.net,default,false)
def Ep:Fct:=⟨[.v (.el .net),.v (.el .addr),.v (.sl .int),.v (.sl .int)],[.el .net,.el .page,.el .bool],λ(x_:Ss_×Sb_×(List Int)×(List Int)×Unit)=>szNet x_.1<=1048576/\szAddr x_.2.1<=1048576/\x_.2.2.1.length<=1048576/\x_.2.2.2.1.length<=1048576,λ(x_:Ss_×Sb_×(List Int)×(List Int)×Unit)=>((loadFast x_.1 x_.2.1 x_.2.2.1 x_.2.2.2.1).1,(loadFast x_.1 x_.2.1 x_.2.2.1 x_.2.2.2.1).2.1,(loadFast x_.1 x_.2.1 x_.2.2.1 x_.2.2.2.1).2.2,())⟩
theorem q28 (n:Ss_) (a:Sb_) (cs:List Int) (ch:List Int) (hp:Ep.pre (n,a,cs,ch,())):Out.holds (Ep.ctr (n,a,cs,ch,())).post (let q1_:=(⟨#[]⟩:ByteArray);.cl ED (n,a,cs,()) λz2=>.br (!z2.2.1) (.leaf (.tup [(true,[.l Ty.server (z2.1.net.servers),.l Ty.entry (z2.1.net.cache.bg),.l Ty.sent (z2.1.net.log),vi (z2.1.net.now)]),(true,[vs q1_,vs q1_,vb (false),.nl,.nl,.nl,vs q1_,vs q1_,.nl,vb (false),.nl,.nl,.nl,.nl,.nl,vi ((0:Int)),vi ((0:Int)),vi ((0:Int)),vi ((0:Int)),.nl,.nl,vb (false)]),(false,[vb (false)])]) [] []) (.cl Fz (z2.1,ch,()) λz3=>let q0_:Out:=.lf Ep (z3.1.net,z3.1.page,true,());.lp (Bool) (True) (λx=>True) λy4=>.br (y4) (.lp (Bool) (True) (λx=>True) λy6=>.br (y6) q0_ q0_) q0_)):=by
 refine DP ?_ λo1 z2 ez2=>(Ab (λh2=>Fct.leafZ (z2.fst.net,default,false,()) (by repeat' first|exact rfl|exact trivial|refine And.intro ?_ ?_) ?_) (λh2=>DP ?_ λo3 z3 ez3=>(JB trivial λy4 i4=>Ab (λh5=>JB trivial λy6 i6=>Ab (λh7=>lfY ?_) (λh7=>lfY ?_)) (λh5=>lfY ?_))))
 all_goals subst_vars
 all_goals obtain⟨q1,q2,q3,q4⟩:=(show szNet n<=1048576/\szAddr a<=1048576/\cs.length<=1048576/\ch.length<=1048576 from hp)
 all_goals try simp only[Ep,Fz,ED,std,Nat.reduceAdd,fCopyNet] at *
 all_goals have hw:=Aav cs q1 q2
 all_goals first|trivial|omega|exact⟨q1,q2,q3⟩|exact⟨hw.1,q4⟩|skip
 all_goals unfold loadFast
 all_goals first|rw[Qa1 ‹_›]|rw[Qa3 (by intro q;simp_all)]
 all_goals exact⟨rfl,rfl,rfl⟩
def Amy:=Alg.a Ep<|Fct.o (KP [2,3,4,5,8,9,10,11,12,13] [22]) Alg.2 func6 (by
 rintro⟨(n:Ss_),(a:Sb_),(cs:List Int),(ch:List Int),_⟩ hp;exact ho _ (q28 n a cs ch hp))
def AlY:=Amy.a Ep<|Fct.o (KP [2,3,4,5,8,9,10,11,12] [21]) Amy.2 func10 (by
 rintro⟨(n:Ss_),(a:Sb_),(cs:List Int),(ch:List Int),_⟩ hp;exact ho _ (q28 n a cs ch hp))
def AgQ (n:Ss_) (a:Sb_) (cs ch:List Int) (h:szNet n<=1048576) (ha:szAddr a<=1048576):szNet (loadFast n a cs ch).1<=8000000000/\szPage (loadFast n a cs ch).2.1<=1000000000000:=by
 have hw:=Aav cs h ha;unfold loadFast;split
 ·exact(Adr (AiG hw ch)).2
 ·exact⟨(Adr (Ov hw o_)).2.1,(show szPage (default:Sa_)<=1000000000000 by decide)⟩
def lLoadFast:Fct:=AgW [.el .net,.el .addr,.sl .int,.sl .int]
theorem k3_409:lLoadFast.ok Tryz.prog 3:=Fct.o (KP [2,3,4,5,8,9,10,11,12,13,14,15,16,17,18,19,20,21,22,23,24] [27,30,35,40,84,89,94,99,127,138,143,146,174,179,184,187]) AlY.2 func3 (by
 rintro⟨(n:Ss_),(a:Sb_),(cs:List Int),(ch:List Int),_⟩ hp;refine ho (let q2_:Out:=.leaf (mkR lLoadFast.rs (true,())) [] [];let q0_:Out:=.leaf (mkR lLoadFast.rs (false,())) [] [];.br (decide ((↑(List.length cs):Int)>1048576)) q2_ (.br (decide ((↑(List.length ch):Int)>1048576)) q2_ (.cl Aah (n,(1048576:Int),()) λ(z2:Int×PUnit)=>.br (decide (z2.1<0)) q2_ (.cl Tr (a,z2.1,()) λ(z3:Int×PUnit)=>.br (decide (z3.1<0)) q2_ (.cl NI (n,()) λz4=>.cl My (a,()) λz5=>.cl Fq (cs,()) λ(z6:List Int×PUnit)=>.cl Fq (ch,()) λ(z7:List Int×PUnit)=>.cl Ep (z4.1,z5.1,z6.1,z7.1,()) λz8=>.cl NI (n,()) λz9=>.cl Fq (cs,()) λ(z10:List Int×PUnit)=>.cl Fq (ch,()) λ(z11:List Int×PUnit)=>.cl My (a,()) λz12=>.cl Ep (z9.1,z12.1,z10.1,z11.1,()) λz13=>let q4_:=!z13.2.2.1==z8.2.2.1;.cl N5 (z13.1,z8.1,()) λz14=>.br (!z14.1) q0_ (.cl L4 (z13.2.1,z8.2.1,()) λz15=>.br (!z15.1) q0_ (.br q4_ q0_ (.cl NI (n,()) λz16=>.cl N5 (z9.1,z16.1,()) λz17=>.br (!z17.1) q0_ (.cl Fq (cs,()) λ(z18:List Int×PUnit)=>.cl HW (z10.1,z18.1,()) λz19=>.br (!z19.1) q0_ (.cl Fq (ch,()) λ(z20:List Int×PUnit)=>.cl HW (z11.1,z20.1,()) λz21=>.br (!z21.1) q0_ (.ob (Ig.pre z9.1 (1:Int))<|.lt _ (Ig.fn z9.1 (1:Int)) λz22=>.ob (Gz.pre z10.1 z22.2)<|.lt _ (Gz.fn z10.1 z22.2) λz23=>.ob (Gz.pre z11.1 z23.2)<|.lt _ (Gz.fn z11.1 z23.2) λz24=>.br (decide (z24.2<0)) q0_ (.cl N5 (z13.1,z8.1,()) λz25=>.br (!z25.1) q0_ (.cl L4 (z13.2.1,z8.2.1,()) λz26=>.br (!z26.1) q0_ (.br q4_ q0_ (.ob (Ig.pre z13.1 (1:Int))<|.lt _ (Ig.fn z13.1 (1:Int)) λz27=>let q3_:=({z27.1 with now:=z13.1.now}:Ss_);.ob (Jr.pre z13.2.1 z27.2)<|.lt _ (Jr.fn z13.2.1 z27.2) λz28=>let q1_:=({z13.2.1 with bj:=({z28.1.bj with set_:=z13.2.1.bj.set_,nonce:=z13.2.1.bj.nonce}:Si_),bn:=z28.1.bn,ba:=z28.1.ba,bf:=z28.1.bf,bh:=z28.1.bh,bg:=z28.1.bg,ran:=z28.1.ran,log:=z28.1.log}:Sa_);.cl Lm (q3_,(1:Int),()) λ(z29:Int×PUnit)=>.br (decide (z29.1<0)) q0_ (.cl Je (q1_,z29.1,()) λ(z30:Int×PUnit)=>.br (decide (z30.1<0)) q0_ (.br (z30.1 != z28.2) q0_ (.cl NI (n,()) λz31=>.cl My (a,()) λz32=>.cl Fq (cs,()) λ(z33:List Int×PUnit)=>.cl Fq (ch,()) λ(z34:List Int×PUnit)=>.cl Ep (z31.1,z32.1,z33.1,z34.1,()) λz35=>.cl N5 (z35.1,z8.1,()) λz36=>.br (!z36.1) q0_ (.cl L4 (z35.2.1,z8.2.1,()) λz37=>.br (!z37.1) q0_ (.br (!z35.2.2.1==z8.2.2.1) q0_ (.cl Lm (q3_,(1:Int),()) λ(z38:Int×PUnit)=>.br (decide (z38.1<0)) q0_ (.cl Je (q1_,z38.1,()) λ(z39:Int×PUnit)=>.br (decide (z39.1<0)) q0_ (.br (z39.1 != z28.2) q0_ q2_))))))))))))))))))))))) ?_;refine Ab (λh1=>Fct.leafY ?_) (λh1=>Ab (λh2=>Fct.leafY ?_) (λh2=>DP ?_ λo3 z2 ez2=>(Ab (λh4=>Fct.leafY ?_) (λh4=>DP ?_ λo5 z3 ez3=>(Ab (λh6=>Fct.leafY ?_) (λh6=>DP ?_ λo7 z4 ez4=>(DP ?_ λo8 z5 ez5=>(DP ?_ λo9 z6 ez6=>(DP ?_ λo10 z7 ez7=>(DP ?_ λo11 z8 ez8=>(DP ?_ λo12 z9 ez9=>(DP ?_ λo13 z10 ez10=>(DP ?_ λo14 z11 ez11=>(DP ?_ λo15 z12 ez12=>(DP ?_ λo16 z13 ez13=>(DP ?_ λo17 z14 ez14=>(Ab (λh18=>Fct.leafY ?_) (λh18=>DP ?_ λo19 z15 ez15=>(Ab (λh20=>Fct.leafY ?_) (λh20=>Ab (λh21=>Fct.leafY ?_) (λh21=>DP ?_ λo22 z16 ez16=>(DP ?_ λo23 z17 ez17=>(Ab (λh24=>Fct.leafY ?_) (λh24=>DP ?_ λo25 z18 ez18=>(DP ?_ λo26 z19 ez19=>(Ab (λh27=>Fct.leafY ?_) (λh27=>DP ?_ λo28 z20 ez20=>(DP ?_ λo29 z21 ez21=>(Ab (λh30=>Fct.leafY ?_) (λh30=>Aa ?_ λ_=>Ahv λz22 ez22=>(Aa ?_ λ_=>Ahv λz23 ez23=>(Aa ?_ λ_=>Ahv λz24 ez24=>(Ab (λh34=>Fct.leafY ?_) (λh34=>DP ?_ λo35 z25 ez25=>(Ab (λh36=>Fct.leafY ?_) (λh36=>DP ?_ λo37 z26 ez26=>(Ab (λh38=>Fct.leafY ?_) (λh38=>Ab (λh39=>Fct.leafY ?_) (λh39=>Aa ?_ λ_=>Ahv λz27 ez27=>(Aa ?_ λ_=>Ahv λz28 ez28=>(DP ?_ λo42 z29 ez29=>(Ab (λh43=>Fct.leafY ?_) (λh43=>DP ?_ λo44 z30 ez30=>(Ab (λh45=>Fct.leafY ?_) (λh45=>Ab (λh46=>Fct.leafY ?_) (λh46=>DP ?_ λo47 z31 ez31=>(DP ?_ λo48 z32 ez32=>(DP ?_ λo49 z33 ez33=>(DP ?_ λo50 z34 ez34=>(DP ?_ λo51 z35 ez35=>(DP ?_ λo52 z36 ez36=>(Ab (λh53=>Fct.leafY ?_) (λh53=>DP ?_ λo54 z37 ez37=>(Ab (λh55=>Fct.leafY ?_) (λh55=>Ab (λh56=>Fct.leafY ?_) (λh56=>DP ?_ λo57 z38 ez38=>(Ab (λh58=>Fct.leafY ?_) (λh58=>DP ?_ λo59 z39 ez39=>(Ab (λh60=>Fct.leafY ?_) (λh60=>Ab (λh61=>Fct.leafY ?_) (λh61=>Fct.leafY ?_)))))))))))))))))))))))))))))))))))))))))))))))))))))))))))));all_goals
  have hlw:=λh1 h2=>AgQ n a cs ch h1 h2
  have hg0:Sh.good (.el .net) n:=hp.1;have hg1:Sh.good (.el .addr) a:=hp.2.1;have hg2:Sh.good (.sl .int) cs:=hp.2.2.1;have hg3:Sh.good (.sl .int) ch:=hp.2.2.2.1;clear hp;try have hbd0:=UJ z9.fst (1:Int)
  try have hbd1:=Mj z10.fst z22.snd
  try have hbd2:=Mj z11.fst z23.snd
  try have hbd3:=UJ z13.fst (1:Int)
  try have hbd4:=ZF z13.snd.fst z27.snd
 all_goals subst_vars
 all_goals
  try simp only[Hv] at *
  try simp only[Ep,HW,N5,L4,Lm,Je,Gz,Ig,Jr,Tr,Aah,My,Fq,NI,lLoadFast,std,Nat.reduceAdd,szF,toF,eqF,mkF,heF,decide_true] at *
  try simp only[mkIntS_idem,mkIntS_ub] at *
  try simp only[Ac2,Yv] at *
 all_goals first|trivial|omega|grind[lessen])
def An7:=AlY.a lLoadFast k3_409
section
open Go.ChangeShapes Go.WideShapes Go.ChangeAt Go.RowKit
theorem rfB:(Tryz.f3.params.toList.all λt=>Tryz.prog.readableRec t&&decide (t<Tryz.prog.types.size))=true:=by kernel_rfl
theorem rfC:Ns Tryz.prog tyOf Tryz.f3.params.toList [.el .net,.el .addr,.sl .int,.sl .int]=true:=by kernel_rfl
theorem rfD:AnE Tryz.prog tyOf [3,4,5,9,25,28,30,37,40,41,44,46,50,55,74,106,110,112,123,127,135,139,142,150,152,169,180,183,185,188,227,261,276,373,380,406]=true:=by kernel_rfl
theorem rowFacts:AfP Tryz.prog Tryz.f3 tyOf [3,4,5,9,25,28,30,37,40,41,44,46,50,55,74,106,110,112,123,127,135,139,142,150,152,169,180,183,185,188,227,261,276,373,380,406] [.el .net,.el .addr,.sl .int,.sl .int]=true:=by unfold AfP;rw[rfA,rfB,rfC,rfD];rfl
end
end Go.Proofs.YtglhphmnikpkfaaGreatDoor.fnExactLoadFast
