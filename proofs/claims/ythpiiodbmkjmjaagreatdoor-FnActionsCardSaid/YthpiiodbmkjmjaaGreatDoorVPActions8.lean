/- Contracts, part 8. -/
import Derived.Test.YthpiiodbmkjmjaaGreatDoorVPActions4
import Derived.Test.YthpiiodbmkjmjaaGreatDoorVPActions7
namespace Go.Proofs.YthpiiodbmkjmjaaGreatDoor.fnActions
open Go.Proofs.YthpiiodbmkjmjaaGreatDoor
open Go.D Go.Proofs.Tryz
set_option maxRecDepth 100000
set_option maxHeartbeats 2000000
set_option linter.defProp false
set_option linter.unusedVariables false
set_option linter.unusedSimpArgs false
def Al0:=Aly.a AcU<|Fct.o [1,2,3] Aly.2 func58 (by
 rintro⟨(r:Sg_),(c:Sk_),_⟩ hp;exact hq (.lf AcU (r.to.host==c.to.host&&(r.to.path==c.to.path&&true),())))
abbrev A1:Fct:=⟨[aL .request,.c 58 [.el .conn]],[rI],λx=>x.1.length<=1000000000000000000/\∀ c,AcU.pre (c,x.2.1),λx=>(fidx (λc=>(AcU.fn (c,x.2.1)).1) x.1 0,())⟩
abbrev Ap (l:(List Sg_)) (u:(Sk_×Unit)):LInv:=⟨[⟨.s,8,true,.el .int⟩],λ_ (x_:Ty3_)=>0<=x_.1/\x_.1<=l.length/\fidx (λc=>(AcU.fn (c,u)).1) l 0=fidx (λc=>(AcU.fn (c,u)).1) (l.drop x_.1.toNat) x_.1,λ(x_:Ty3_)=>l.length-x_.1.toNat⟩
def Ai7:=Al0.a A1<|Fct.p (KP [0,1,4,5,7,8] [9,16]) (λ⟨l,u,_⟩=>lv [(2,Ap l u)]) Al0.2 func143 (by
 rintro⟨(l:List Sg_),(u:Sk_×PUnit),_⟩ hp;refine ho (lpx (Ap l u) ((0:Int),()) λ(y1:Ty3_) bk1=>.br (decide (y1.1<(l.length:Int))) (.ob (inB y1.1 l.length)<|.cl AcU (l.getD y1.1.toNat default,u.1,()) λz2=>.br (z2.1) (.lf A1 (y1.1,())) (.re (l)<|.re (enc Ty.conn u.1)<|.re (Value.int IntKind.i64 (l.length:Int))<|.bk (bk1 (w1 y1.1,())))) (.lf A1 ((-1:Int),()))) ?_;refine Au ?_ λ(y1:Ty3_) i1=>Aa (λh2=>Ac ?_ λ_=>Af trivial λ_=>(Aa (λh4=>lfY ?_) (λh4=>An<|An<|An<|A8 ?_))) (λh2=>lfY ?_)
 all_goals
  try simp only[std,Nat.reduceAdd] at *
  try have hp2:=hp.2
  try have hp1:=hp.1
 all_goals first|trivial|omega|grind[wrapId',toNat1,drop_cons,drop_end,good_len,maxLen,fidx])
abbrev Bj:Fct:=⟨[aL .request,.c 58 [.el .conn]],[rB],λx=>x.1.length<=1000000000000000000/\∀ c,AcU.pre (c,x.2.1),λx=>(x.1.any (λc=>(AcU.fn (c,x.2.1)).1),())⟩
def Ajm:=Ai7.a Bj<|Fct.o [0,1,4] Ai7.2 func57 (by
 rintro⟨(l:List Sg_),(u:Sk_×PUnit),_⟩ hp;refine ho (.cl A1 (l,(u.1,()),()) λ(z2:Ty3_)=>.lf Bj (decide (z2.1>=0),())) ?_;refine Af ?_ λ_=>(lfY ?_)
 all_goals try simp only[std,Nat.reduceAdd] at *
 all_goals first|trivial|omega|(rw[Bool.eq_iff_iff];exact decide_eq_true_iff.trans (KN _ _ _ o_)))
def needsTo (p:Sa_) (a:Sb_):Bool:=(nextNeeds p).any λr=>decide (r.to=a)
def finishC (l:Sd_) (c:Sk_):Sd_ :=
 if needsTo l.page c.to=true then(if c.guess=true then{ l with net:=keepAnswer l.net l.page.addr.host c.to c.bd,page:=takeAnswer l.page c.to c.bd } else{ l with page:=takeAnswer l.page c.to c.bd })
 else if c.guess=true then{ l with guesses:=(addGuess l.guesses c.to c.bd).1 } else l
def finish1 (l:Sd_) (k:Int):Sd_:=finishC { l with conns:=closeConn l.conns k } (l.conns.getD k.toNat default)
def okFin (l:Sd_):Prop:=(okFM l.page/\l.page.bf.length+l.page.bh.length<=1000000000000)/\(l.conns.length<=1048576/\okCs l.conns)/\l.guesses.length<=4194304/\szNet l.net<=10000000000/\szCache l.net.cache<=90000000
def Agu {α:Type} [Inhabited α] (f:α->Bool) {l:List α} {i:Nat} (h:i<l.length):(l.drop i).any f=(f (l.getD i default)||(l.drop (i+1)).any f):=by rw[drop_cons h];rfl
def Ab5 {α:Type} (f:α->Bool) {l:List α} {i:Nat} (h:l.length<=i):(l.drop i).any f=false:=by rw[Qb2 h];rfl
abbrev JL:GS:=⟨[.g (.el .loader),.l (.v (.el .int))],[.el .loader],λ(x_:Ty139_)=>okFin x_.1/\0<=x_.2.1/\x_.2.1<x_.1.conns.length,λ(x_:Ty139_)=>((finish1 x_.1 x_.2.1,()),(()))⟩
abbrev CH (l:Sd_) (k:Int):LInv:=⟨[⟨.s,7,true,.el .int⟩,⟨.b,2,true,.el .loader⟩,⟨.b,4,true,.el .loader⟩,⟨.b,5,true,.el .conn⟩,⟨.s,6,true,.sl .request⟩],λ_ (x_:Ty140_)=>x_.2.1={ l with conns:=closeConn l.conns k }/\x_.2.2.2.1=l.conns.getD k.toNat default/\x_.2.2.2.2.1=nextNeeds l.page/\0<=x_.1/\x_.1<=(nextNeeds l.page).length/\((nextNeeds l.page).drop x_.1.toNat).any (λr=>decide (r.to=(l.conns.getD k.toNat default).to))=needsTo l.page (l.conns.getD k.toNat default).to,λ(x_:Ty140_)=>(nextNeeds l.page).length-x_.1.toNat⟩
def AmP:=Ajm.G JL<|GS.of (S:=JL) (L:=λ⟨l,k,_⟩=>λ|5=>some (CH l k)|_=>none) (kp:=(KP [1,2,4,5,6,7] [24,34,36,59])) Ajm.2 func81 k_ k_ (by
 rintro⟨(l:Sd_),(k:Int),_⟩ hp;refine ho (.ix k l.conns.length<|.cl Ep (l.conns,k,()) λz2=>.cl Fq (l.page,()) λz3=>lpx (CH l k) ((0:Int),(({l with conns:=z2.1}:Sd_),(default,(l.conns.getD k.toNat default,(z3.1,()))))) λ(y5:Ty140_) bk5=>let q0_:=y5.2.2.2.2.1.getD y5.1.toNat default;.br (decide (y5.1<(y5.2.2.2.2.1.length:Int))) (.ix y5.1 y5.2.2.2.2.1.length<|.br (q0_.to.host==y5.2.2.2.1.to.host&&(q0_.to.path==y5.2.2.2.1.to.path&&true)) (.br (y5.2.2.2.1.guess) (.cl A5 (y5.2.1.net,y5.2.1.page.addr.host,y5.2.2.2.1.to,y5.2.2.2.1.bd,()) λz4=>.cl CX (y5.2.1.page,y5.2.2.2.1.to,y5.2.2.2.1.bd,()) λz5=>GS.out JL (({y5.2.1 with net:=z4.1,page:=z5.1},()),(()))) (.cl CX (y5.2.1.page,y5.2.2.2.1.to,y5.2.2.2.1.bd,()) λz6=>GS.out JL (({y5.2.1 with page:=z6.1},()),(())))) (.re (Value.int IntKind.i64 k)<|.bk (bk5 (w1 y5.1,(y5.2.1,(y5.2.2.1,(y5.2.2.2.1,(y5.2.2.2.2.1,())))))))) (.br (y5.2.2.2.1.guess) (.cl EG (y5.2.1.guesses,y5.2.2.2.1.to,y5.2.2.2.1.bd,()) λz7=>GS.out JL (({y5.2.1 with guesses:=z7.1},()),(()))) (GS.out JL ((y5.2.1,()),(()))))) ?_;repeat' (guard_target =~ Out.holds _ _;first|refine Au (li:=CH l k) ?_ λ(y5:Ty140_) i5=>?_|refine GS.leafY ?_|refine Aa (λ_=>?_) λ_=>?_|refine Af ?_ λ_=>?_|refine A8 ?_|refine An ?_|refine Er ?_ λ_ _=>?_)
 all_goals obtain⟨⟨⟨q1,q2⟩,⟨q3,q4⟩,q5,q6,q7⟩,q8,q9⟩:=(show okFin l/\0<=k/\k<l.conns.length from hp)
 all_goals
  try simp only[Kk] at *
  try simp only[std,Nat.reduceAdd] at *
 all_goals first|trivial|omega|exact⟨o_,o_,rfl⟩|skip
 all_goals
  have hc:=q4 _ (AN (show k.toNat<l.conns.length from o_));have hc1:(l.conns.getD k.toNat default).bd.body.size+(l.conns.getD k.toNat default).bd.bj.size<=1048576:=hc.1;have hok:=CP (Ff q1);have hn:=Hg l.page;have hh:l.page.addr.host.size<=4000000:=by have:=hok.2.1;simp only[szAddr] at this;omega
 all_goals (obtain⟨e1,e2,e3,a1,a2,a3⟩:=i5;simp only[e1,e2,e3,Ea,Qa8,Qb3] at *)
 all_goals first|trivial|omega|exact⟨o_,o_,o_,o_,o_⟩|exact⟨q1,o_,o_,o_⟩|skip
 all_goals first|(have e:=Agu (λr:Sg_=>decide (r.to=(l.conns.getD k.toNat default).to)) (l:=nextNeeds l.page) (i:=y5.1.toNat) o_)|(have e:=Ab5 (λr:Sg_=>decide (r.to=(l.conns.getD k.toNat default).to)) (l:=nextNeeds l.page) (i:=y5.1.toNat) o_)
 all_goals rw[a3] at e
 all_goals first|(rw[show decide (((nextNeeds l.page).getD y5.1.toNat default).to=(l.conns.getD k.toNat default).to)=false from decide_eq_false ‹_›,Bool.false_or] at e;rw[Al o_,show(y5.1+1).toNat=y5.1.toNat+1 from o_];exact⟨⟨trivial,trivial,trivial,o_,o_,e.symm⟩,o_⟩)|skip
 all_goals first|(rw[show decide (((nextNeeds l.page).getD y5.1.toNat default).to=(l.conns.getD k.toNat default).to)=true from Qf4 ‹_›,Bool.true_or] at e)|skip
 all_goals first|(have hg:(l.conns.getD k.toNat default).guess=true:=by assumption)|(have hg:(l.conns.getD k.toNat default).guess=false:=by assumption)|skip
 all_goals (unfold finish1 finishC;dsimp only;simp only[e,hg,Qd6,Qe8,Qe6]))
def Hz {s:ByteArray} (h:isName s=true):s.size<=8:=by
 unfold isName at h;simp only[Qa2,Qa8] at h;exact h.2.2
def AbF (p:Sj_):(formatPolicy p).size<=300:=by
 unfold formatPolicy;split
 ·rename_i h;simp only[Qa2] at h;obtain⟨a1,a2,a3,a4,a5,a6,a7⟩:=FF h.1 h.2;have b1:=Jc p.bp ⟨#[115,99,114,105,112,116]⟩ a1;have b2:=Jc p.styles ⟨#[115,116,121,108,101]⟩ a3;have b3:=Jc p.images ⟨#[105,109,103]⟩ a5;have c1:(⟨#[115,99,114,105,112,116]⟩:ByteArray).size=6:=rfl;have c2:(⟨#[115,116,121,108,101]⟩:ByteArray).size=5:=rfl;have c3:(⟨#[105,109,103]⟩:ByteArray).size=3:=rfl;have c4:(⟨#[59]⟩:ByteArray).size=1:=rfl;have c5:(⟨#[59,110,111,110,99,101,32]⟩:ByteArray).size=7:=rfl;split<;>(simp only[Qa6];omega)
 ·exact Nat.zero_le _
def Lo {x:Sc_} (h:isResponse x=true):Ad x<=700:=by
 unfold isResponse at h;simp only[Qa2,Qa8] at h;obtain⟨_,_,h1,_,h2⟩:=h;have h3:x.bj.size<=300:=by
  unfold parsePolicy at h2;split at h2
  ·rename_i e;rw[e];exact Nat.zero_le _
  ·split at h2
   ·rename_i e;rw[<-e.2];exact AbF _
   ·cases h2
 simp only[Ad];omega
def Wl {all:List Sp_}:∀ {l:List Sp_} {k:Int},entOk all l k=true->szL A0 l<=800*l.length
 | [],_,_=>Qa9 _
 | e::l,k,h=>by simp only[entOk,Qa2] at h;obtain⟨⟨⟨⟨⟨h1,h2,h3⟩,h4⟩,_⟩,_⟩,h5⟩:=h;have a1:=Hz h1;have a2:=Hz h2;have a3:=Hz h3;have a4:=Lo h4;have a5:=Wl h5;rw[Ah,Qa7];simp only[A0,szAddr];omega
def XH {c:Sn_} (h:isCache c=true):szCache c<=80000:=by
 unfold isCache at h;simp only[Qa2,Qa8] at h;have:=Wl h.1;simp only[szCache];omega
def Lf (c:Sn_) (t:ByteArray) (a:Sb_) (x:Sc_) (now:Int) {B:Nat} (h:szCache c<=B) (hB:80000<=B):szCache (storeEntry c t a x now)<=B:=by
 unfold storeEntry;split
 ·rename_i q;exact Qd1 (XH q.2.2.2) hB
 ·exact h
def okNk (n:Ss_):Prop:=szNet n<=szCache n.cache+9000000000/\szCache n.cache<=90000000
def keep_okNk {n:Ss_} (h:okNk n) (t:ByteArray) (a:Sb_) (x:Sc_):okNk (keepAnswer n t a x):=by
 unfold keepAnswer;split
 ·have:=Lf n.cache t a x n.now h.2 o_;refine⟨?_,this⟩;have h1:=h.1;simp only[szNet] at *;omega
 ·exact h
def wB (x:Sc_):Nat:=min 400 x.body.size
def wCs (l:List Sk_):Nat:=(l.map λc=>wB c.bd).sum
def YU (p:Sj_) (r:Sg_) (x:Sc_):(usable p r x).1.size<=wB x:=by
 have h1:=K6 p r x;have h2:(usable p r x).1.size<=x.body.size:=by
  unfold usable;split
  ·exact Qa9 _
  ·exact Nat.zero_le _
 unfold wB;omega
def Pf {p:Sa_} {Q M R:Nat} (h:okAll p Q M R) (a:Sb_) (x:Sc_):okAll (fillModule p a x) Q (M+600*wB x) (R+20*wB x):=by
 have mono:∀ {q:Sa_} {M' R':Nat},okAll q Q M' R'->M'<=M+600*wB x->R'<=R+20*wB x->okAll q Q (M+600*wB x) (R+20*wB x):=λh hM hR=>by obtain⟨h1,h2,h3,⟨h4,h5,h6,h7⟩,h8⟩:=h;exact⟨h1,h2,h3,⟨h4,o_,o_,h7⟩,h8⟩
 unfold fillModule;split
 ·exact mono h o_ o_
 ·rename_i hc;have h0:0<=findMod p.bh a:=o_
  have hd:(p.bh.getD (findMod p.bh a).toNat default).done=false:=by
   cases hq:(p.bh.getD (findMod p.bh a).toNat default).done with
   | false=>rfl
   | true=>exact absurd (.inr hq) hc
  obtain⟨i1,_⟩:=LZ (x:=x) h0;have i2:(imports (fillM0 p a x) a).1.length<=wB x:=by
   obtain⟨_,h2⟩:=Fv (fillM0 p a x) a;obtain⟨f1,f2⟩:=IN p a x h0;rw[f1,f2] at h2;rcases h2 with h2|⟨_,h2⟩
   ·rw[h2];exact Nat.zero_le _
   ·exact Qd1 h2 (YU ..)
  exact mono (UV _ _ M R (O8 h a x h0 hd) i1) o_ o_
def Mx {p:Sa_} {Q M R:Nat} (h:okAll p Q M R) (a:Sb_) (x:Sc_):okAll (takeAnswer p a x) (Q+740000) (M+600*wB x) (R+20*wB x):=by
 have:=OG h a x p.bf.length;rw[JY (Qa9 _)] at this;exact P2 (Pf this a x)
def okPot (l:Sd_):Prop:=∃ Q M R,okAll l.page Q M R/\Q+740000*l.conns.length<=899000000000/\M+600*wCs l.conns<=49000000000/\R+20*wCs l.conns<=19000000000
def okT (l:Sd_):Prop:=okPot l/\(okCs l.conns/\l.conns.length<=1048576/\l.guesses.length+l.conns.length<=4194304)/\okNk l.net
def Uc {l:Sd_} (h:okT l):okFin l:=by
 obtain⟨⟨Q,M,R,h1,h2,h3,h4⟩,⟨h5,h6a,h6⟩,h7,h8⟩:=h;have hf:okFM l.page:=⟨Q,M,R,h1,o_,o_,o_⟩;have hp:=CP (Ff hf);exact⟨⟨hf,o_⟩,⟨o_,h5⟩,o_,o_,h8⟩
def Nv {l:List Sk_} {k:Int} (h0:0<=k) (h:k<l.length):closeConn l k=l.take k.toNat++l.drop (k.toNat+1):=by unfold closeConn;rw[Qa3 ⟨h0,h⟩]
def Jo {l:List Sk_} {k:Int} (h0:0<=k) (h:k<l.length):(closeConn l k).length+1=l.length:=by
 rw[Nv h0 h,Qa1,Qc2,Qe3];omega
def TL {l:List Sk_} {k:Int} (h0:0<=k) (h:k<l.length):wCs (closeConn l k)+wB (l.getD k.toNat default).bd=wCs l:=by
 have e:l.take k.toNat++l.getD k.toNat default::l.drop (k.toNat+1)=l:=by rw[<-drop_cons (show k.toNat<l.length from o_),Qd9]
 have g:wCs (l.take k.toNat++l.getD k.toNat default::l.drop (k.toNat+1))=wCs l:=by rw[e]
 rw[Nv h0 h];unfold wCs at *
 simp only[List.map_append,Qd0,List.sum_append,List.sum_cons] at *
 omega
def AcL {l:List Sk_} {k:Int} (h0:0<=k) (h:k<l.length):szL G9 (closeConn l k)+(G9 (l.getD k.toNat default)+1)=szL G9 l:=by
 have e:l.take k.toNat++l.getD k.toNat default::l.drop (k.toNat+1)=l:=by rw[<-drop_cons (show k.toNat<l.length from o_),Qd9]
 have g:szL G9 (l.take k.toNat++l.getD k.toNat default::l.drop (k.toNat+1))=szL G9 l:=by rw[e]
 rw[Nv h0 h];rw[CE,Ah] at g;rw[CE];omega
def WB {l:List Sk_} {k:Int} (h0:0<=k) (h:k<l.length) (ho:okCs l):okCs (closeConn l k):=by
 rw[Nv h0 h];intro c hc;rcases Qb8.1 hc with q|q
 ·exact ho c (List.mem_of_mem_take q)
 ·exact ho c (List.mem_of_mem_drop q)
def VW (l:List Sm_) (a:Sb_) (x:Sc_):(addGuess l a x).1.length<=l.length+1:=by
 unfold addGuess;split
 ·exact Nat.le_succ _
 ·simp only[Qa1,Qa7,Qb1];omega
def AfH (l:List Sm_) (a:Sb_) (x:Sc_):szL FN (addGuess l a x).1<=szL FN l+(szAddr a+Ad x+1):=by
 unfold addGuess;split
 ·simp only;omega
 ·simp only;rw[En];simp only[FN];omega
def TQ (l:Sd_) (k:Int):(finish1 l k).conns=closeConn l.conns k:=by
 unfold finish1 finishC;split
 ·split<;>rfl
 ·split<;>rfl
def Ac0 {l:Sd_} {k:Int} (h:okT l) (h0:0<=k) (hk:k<l.conns.length):okT (finish1 l k):=by
 obtain⟨⟨Q,M,R,h1,h2,h3,h4⟩,⟨h5,h6a,h6⟩,h7⟩:=h;have c1:=Jo h0 hk;have c2:=TL h0 hk;have c3:=WB h0 hk h5;have ha:=Mx h1 (l.conns.getD k.toNat default).to (l.conns.getD k.toNat default).bd;have hg:=VW l.guesses (l.conns.getD k.toNat default).to (l.conns.getD k.toNat default).bd;unfold finish1 finishC;dsimp only;split
 ·split
  ·exact⟨⟨_,_,_,ha,by dsimp only;omega,by dsimp only;omega,by dsimp only;omega⟩,⟨c3,by dsimp only;omega,by dsimp only;omega⟩,keep_okNk h7 _ _ _⟩
  ·exact⟨⟨_,_,_,ha,by dsimp only;omega,by dsimp only;omega,by dsimp only;omega⟩,⟨c3,by dsimp only;omega,by dsimp only;omega⟩,h7⟩
 ·split
  ·exact⟨⟨_,_,_,h1,by dsimp only;omega,by dsimp only;omega,by dsimp only;omega⟩,⟨c3,by dsimp only;omega,by dsimp only;omega⟩,h7⟩
  ·exact⟨⟨_,_,_,h1,by dsimp only;omega,by dsimp only;omega,by dsimp only;omega⟩,⟨c3,by dsimp only;omega,by dsimp only;omega⟩,h7⟩
def Eb:∀ (l:List Sk_) (z:Int),0<=z->-1<=firstDone l z/\firstDone l z<z+l.length/\(firstDone l z<0\/z<=firstDone l z)
 | [],z,h=>by
  rw[firstDone,Qb1];omega
 | c::l,z,h=>by have:=Eb l (z+1) o_;rw[firstDone,Qa7];split<;>omega
def xfer:Nat->Sd_->Sd_
 | 0,l=>l
 | n+1,l=>if firstDone l.conns 0<0 then l else xfer n (finish1 l (firstDone l.conns 0))
def Y1 {l:Sd_} (h:firstDone l.conns 0<0):∀ n,xfer n l=l
 | 0=>rfl
 | n+1=>by rw[xfer,Qa3 h]
def Af3 {l:Sd_} {n:Nat} (h:0<=firstDone l.conns 0):xfer (n+1) l=xfer n (finish1 l (firstDone l.conns 0)):=by rw[xfer,Qa5 o_]
def moved (l:Sd_) (b:Int):Sd_:={ l with conns:=moveConns l.conns b }
def transfer (l:Sd_) (b:Int):Sd_×Bool:=if l.conns.length=0\/inRange b 1 1000=false then(l,false) else(xfer l.conns.length (moved l b),true)
def Aek (l:List Sk_) (b:Int):wCs (moveConns l b)=wCs l:=by
 unfold moveConns;split
 ·unfold wCs;rw[Qf9];rfl
 ·rfl
def Ae2 (l:List Sk_) (b:Int):szL G9 (moveConns l b)=szL G9 l:=by
 unfold moveConns;split
 ·unfold szL;rw[Qf9,Qf2];rfl
 ·rfl
def Y6 {l:List Sk_} (b:Int) (h:okCs l):okCs (moveConns l b):=by
 unfold moveConns;split
 ·intro c hc;obtain⟨d,hd,rfl⟩:=Qg1.1 hc;exact h d hd
 ·exact h
def Adz {l:Sd_} (h:okT l) (b:Int):okT (moved l b):=by
 obtain⟨⟨Q,M,R,h1,h2,h3,h4⟩,⟨h5,h6a,h6⟩,h7⟩:=h;have e1:=Cq l.conns b;have e2:=Aek l.conns b;unfold moved;exact⟨⟨Q,M,R,h1,by dsimp only;omega,by dsimp only;omega,by dsimp only;omega⟩,⟨Y6 b h5,by dsimp only;omega,by dsimp only;omega⟩,h7⟩
def xInv (l0 l:Sd_) (n:Nat):Prop:=okT l/\l.conns.length<=n/\xfer n l=l0
def SQ {l0 l:Sd_} {n:Nat} (h:xInv l0 l (n+1)) (h0:0<=firstDone l.conns 0):xInv l0 (finish1 l (firstDone l.conns 0)) n:=by
 obtain⟨h1,h2,h3⟩:=h;have hd:=Eb l.conns 0 o_;rw[Af3 h0] at h3;have hl:=Jo h0 (show firstDone l.conns 0<l.conns.length from o_);exact⟨Ac0 h1 h0 o_,by rw[TQ];omega,h3⟩
def Th {l0 l:Sd_} {n:Nat} (h:xInv l0 l n) (h0:firstDone l.conns 0<0):l=l0:=by
 have:=h.2.2
 rwa [Y1 h0] at this
def okTr (l:Sd_):Prop:=okT l/\l.parts.length<=1000000000
def VL {l:Sd_} (h:okT l) (hp:l.parts.length<=1000000000):szNet l.net<=68719476736/\Ag l.page<=1099511627776/\l.parts.length<=1000000000/\l.conns.length<=1048576/\l.guesses.length<=4194304:=by
 have hf:=Uc h;have hq:=CP (Ff hf.1.1);exact⟨by have:=hf.2.2.2.1;omega,o_,hp,hf.2.1.1,hf.2.2.1⟩
def AdL {l:Sd_} {b:Int} (h:l.conns.length=0\/inRange b 1 1000=false):transfer l b=(l,false):=by unfold transfer;rw[Qa3 h]
def AeH {l:Sd_} {b:Int} (h1:¬ l.conns.length=0) (h2:inRange b 1 1000=true):transfer l b=(xfer l.conns.length (moved l b),true):=by
 unfold transfer;rw[Qa5 (by rintro(q|q);exact h1 q;rw[h2] at q;cases q)]
def Aeb {l:Sd_} (h:okT l) (b:Int):xInv (xfer l.conns.length (moved l b)) { net:=l.net,page:=l.page,parts:=l.parts,conns:=moveConns l.conns b,guesses:=l.guesses } l.conns.length:=⟨Adz h b,Nat.le_of_eq (Cq l.conns b),rfl⟩
def YK {l0 l:Sd_} (h:xInv l0 l l.conns.length) (h0:0<=firstDone l.conns 0):xInv l0 (finish1 l (firstDone l.conns 0)) (closeConn l.conns (firstDone l.conns 0)).length:=by
 have hd:=Eb l.conns 0 o_;have hl:=Jo h0 (show firstDone l.conns 0<l.conns.length from o_);rw[<-hl] at h;exact SQ h h0
def AiI {l:Sd_} {k:Int} (h1:needsTo l.page (l.conns.getD k.toNat default).to=true) (h2:(l.conns.getD k.toNat default).guess=true):finish1 l k={ net:=keepAnswer l.net l.page.addr.host (l.conns.getD k.toNat default).to (l.conns.getD k.toNat default).bd,page:=takeAnswer l.page (l.conns.getD k.toNat default).to (l.conns.getD k.toNat default).bd,parts:=l.parts,conns:=closeConn l.conns k,guesses:=l.guesses }:=by
 unfold finish1 finishC;dsimp only;rw[Qa3 h1,Qa3 h2]
def AiF {l:Sd_} {k:Int} (h1:needsTo l.page (l.conns.getD k.toNat default).to=true) (h2:(l.conns.getD k.toNat default).guess=false):finish1 l k={ net:=l.net,page:=takeAnswer l.page (l.conns.getD k.toNat default).to (l.conns.getD k.toNat default).bd,parts:=l.parts,conns:=closeConn l.conns k,guesses:=l.guesses }:=by
 unfold finish1 finishC;dsimp only;rw[Qa3 h1,Qa5 (by rw[h2];decide)]
def Ah7 {l:Sd_} {k:Int} (h1:needsTo l.page (l.conns.getD k.toNat default).to=false) (h2:(l.conns.getD k.toNat default).guess=true):finish1 l k={ net:=l.net,page:=l.page,parts:=l.parts,conns:=closeConn l.conns k,guesses:=(addGuess l.guesses (l.conns.getD k.toNat default).to (l.conns.getD k.toNat default).bd).1 }:=by
 unfold finish1 finishC;dsimp only;rw[Qa5 (by rw[h1];decide),Qa3 h2]
def Aiw {l:Sd_} {k:Int} (h1:needsTo l.page (l.conns.getD k.toNat default).to=false) (h2:(l.conns.getD k.toNat default).guess=false):finish1 l k={ net:=l.net,page:=l.page,parts:=l.parts,conns:=closeConn l.conns k,guesses:=l.guesses }:=by
 unfold finish1 finishC;dsimp only;rw[Qa5 (by rw[h1];decide),Qa5 (by rw[h2];decide)]
abbrev D7:Fct:=⟨[.v (.el .loader),.v (.el .int)],[.el .loader,.el .bool],λ(x_:Ty139_)=>okTr x_.1,λ(x_:Ty139_)=>((transfer x_.1 x_.2.1).1,(transfer x_.1 x_.2.1).2,())⟩
abbrev D8 (l:Sd_) (b:Int):LInv:=⟨[⟨.b,6,true,.el .loader⟩,⟨.s,7,true,.el .int⟩,⟨.b,2,false,.el .loader⟩,⟨.b,4,true,.el .loader⟩],λ(z_ x_:Ty141_)=>((0<=x_.2.1/\x_.2.1<=l.conns.length/\xInv (xfer l.conns.length (moved l b)) x_.1 (l.conns.length-x_.2.1.toNat))/\x_.2.2.1=z_.2.2.1)/\x_.2.2.2.1=z_.2.2.2.1,λ(x_:Ty141_)=>l.conns.length-x_.2.1.toNat⟩
def Ajs:=AmP.a D7<|Fct.p (KP [1,2,4,5,6,7,8] [19,30,37]) (λ⟨l,b,_⟩=>lv [(6,D8 l b)]) AmP.2 func14 (by
 rintro⟨(l:Sd_),(b:Int),_⟩ hp;refine ho (.cl Cf (l,()) λz2=>.br ((l.conns.length:Int)==0) (.lf D7 (z2.1,false,())) (.cl Aw (b,(1:Int),(1000:Int),()) λz3=>.br (!z3.1) (.lf D7 (z2.1,false,())) (.cl Sg (l.conns,b,()) λz4=>lpx (D8 l b) ((⟨z2.1.net,z2.1.page,z2.1.parts,z4.1,z2.1.guesses⟩:Sd_),((0:Int),(l,(default,())))) λ(y5:Ty141_) bk5=>.br (decide (y5.2.1<(y5.2.2.1.conns.length:Int))) (.cl Oq (y5.1.conns,()) λ(z5:Ty3_)=>.br (decide (z5.1<0)) (.lf D7 (y5.1,true,())) (.ob (JL.pre (y5.1,z5.1,()))<|.lt _ (JL.fn (y5.1,z5.1,())) λz6=>.re (Value.int IntKind.i64 b)<|.bk (bk5 (z6.1.1,(w1 y5.2.1,(y5.2.2.1,(y5.2.2.2.1,()))))))) (.lf D7 (y5.1,true,()))))) ?_;refine Af ?_ λ_=>(Aa (λh2=>lfY ?_) (λh2=>Af trivial λ_=>(Aa (λh3=>lfY ?_) (λh3=>Af ?_ λ_=>(Au ?_ λ(y5:Ty141_) i5=>Aa (λh6=>Af ?_ λ_=>(Aa (λh8=>lfY ?_) (λh8=>Ac ?_ λ_=>DW (An<|A8 ?_)))) (λh6=>lfY ?_))))))
 all_goals obtain⟨q1,q2⟩:=(show okTr l from hp)
 all_goals
  have hc:=VL q1 q2;try simp only[Kk] at *
  try simp only[std,Nat.reduceAdd] at *
 all_goals first|trivial|omega|exact hc|exact hc.2.2.2.1|(rw[AdL (.inl o_)];exact⟨rfl,rfl⟩)|(rw[AdL (.inr ‹_›)];exact⟨rfl,rfl⟩)|exact⟨o_,o_,Aeb q1 b⟩|skip
 all_goals (obtain⟨⟨⟨a1,a2,a3⟩,e1⟩,e2⟩:=i5;simp only[e1] at *)
 all_goals
  have hf:=Uc a3.1;have hd:=Eb y5.1.conns 0 o_;have ha:=a3.2.1
 all_goals first|trivial|omega|exact hf.2.1.1|exact⟨hf,o_,o_⟩|(rw[AeH o_ ‹_›];exact⟨Th a3 o_,rfl⟩)|skip
 all_goals rw[show l.conns.length-y5.2.1.toNat=(l.conns.length-(y5.2.1.toNat+1))+1 from o_] at a3
 all_goals rw[Al o_,show(y5.2.1+1).toNat=y5.2.1.toNat+1 from o_]
 all_goals exact⟨⟨⟨⟨o_,o_,SQ a3 o_⟩,by trivial⟩,e2⟩,o_⟩)
abbrev Cz (l:Sd_) (b:Int):LInv:=⟨[⟨.b,6,true,.el .loader⟩,⟨.b,4,true,.el .loader⟩],λ(z_ x_:Ty38_)=>(xInv (xfer l.conns.length (moved l b)) x_.1 x_.1.conns.length)/\x_.2.1=z_.2.1,λ(x_:Ty38_)=>x_.1.conns.length⟩
def Akw:=Ajs.a D7<|Fct.p (KP [1,2,4,5,6,7,8,9] [20,31,48,59,72]) (λ⟨l,b,_⟩=>lv [(5,Cz l b)]) Ajs.2 func10 (by
 rintro⟨(l:Sd_),(b:Int),_⟩ hp;refine ho (let q1_:=Value.int IntKind.i64 b;.cl Cf (l,()) λz2=>let q2_:Out:=.lf D7 (z2.1,false,());.br ((l.conns.length:Int)==0) q2_ (.cl Aw (b,(1:Int),(1000:Int),()) λz3=>.br (!z3.1) q2_ (.cl Sg (z2.1.conns,b,()) λz4=>lpx (Cz l b) (({z2.1 with conns:=z4.1}:Sd_),(default,())) λ(y5:Ty38_) bk5=>.cl Oq (y5.1.conns,()) λ(z5:Ty3_)=>let q0_:=y5.1.conns.getD z5.1.toNat default;.br (decide (z5.1<0)) (.lf D7 (y5.1,true,())) (.ix z5.1 y5.1.conns.length<|.cl Ep (y5.1.conns,z5.1,()) λz6=>.cl Fq (y5.1.page,()) λz7=>.cl Bj (z7.1,(y5.1.conns.getD z5.1.toNat default,()),()) λz8=>.br (z8.1) (.cl CX (y5.1.page,q0_.to,q0_.bd,()) λz9=>.br (q0_.guess) (.cl A5 (y5.1.net,z9.1.addr.host,q0_.to,q0_.bd,()) λz10=>.re q1_<|.bk (bk5 ((⟨z10.1,z9.1,y5.1.parts,z6.1,y5.1.guesses⟩:Sd_),(y5.2.1,())))) (.re q1_<|.bk (bk5 (({y5.1 with page:=z9.1,conns:=z6.1}:Sd_),(y5.2.1,()))))) (.br (q0_.guess) (.cl EG (y5.1.guesses,q0_.to,q0_.bd,()) λz11=>.re q1_<|.bk (bk5 (({y5.1 with conns:=z6.1,guesses:=z11.1}:Sd_),(y5.2.1,())))) (.re q1_<|.bk (bk5 (({y5.1 with conns:=z6.1}:Sd_),(y5.2.1,()))))))))) ?_;repeat' first|(guard_target =~ Out.holds _ _;first|refine Au (li:=Cz l b) ?_ λ(y5:Ty38_) i5=>?_|refine lfY ?_|refine Aa (λ_=>?_) λ_=>?_|refine Af ?_ λ_=>?_|refine A8 ?_|refine An ?_|refine Er ?_ λ_ _=>?_)|exact trivial
 all_goals obtain⟨q1,q2⟩:=(show okTr l from hp)
 all_goals
  have hc:=VL q1 q2;try simp only[Kk] at *
  try simp only[std,Nat.reduceAdd] at *
 all_goals first|trivial|omega|exact hc|exact hc.2.2.2.1|(rw[AdL (.inl o_)];exact⟨rfl,rfl⟩)|(rw[AdL (.inr ‹_›)];exact⟨rfl,rfl⟩)|(rw[Cq];exact Aeb q1 b)|skip
 all_goals (obtain⟨a3,e1⟩:=i5)
 all_goals
  have hf:=Uc a3.1;have hd:=Eb y5.1.conns 0 o_
 all_goals first|trivial|omega|exact hf.2.1.1|exact hf.2.2.1|exact hf.1.2|(rw[AeH o_ ‹_›];exact⟨Th a3 o_,rfl⟩)|skip
 all_goals
  have hcs:=hf.2.1.2 _ (AN (show(firstDone y5.1.conns 0).toNat<y5.1.conns.length from o_));have hs1:(y5.1.conns.getD (firstDone y5.1.conns 0).toNat default).bd.body.size+(y5.1.conns.getD (firstDone y5.1.conns 0).toNat default).bd.bj.size<=1048576:=hcs.1;have hn:=Hg y5.1.page;have hh:y5.1.page.addr.host.size<=4000000:=by have:=(CP (Ff hf.1.1)).2.1;simp only[szAddr] at this;omega
  have hz:=hf.2.2.2;have hw:=hf.1.2
 all_goals first|exact⟨o_,λ_=>trivial⟩|exact⟨hf.1.1,o_,o_,o_⟩|(rw[I4];exact⟨o_,o_,o_,o_,o_⟩)|skip
 all_goals
  have hx:=YK a3 o_;have hl:=Jo (show 0<=firstDone y5.1.conns 0 from o_) (show firstDone y5.1.conns 0<y5.1.conns.length from o_);try rw[I4]
 all_goals refine⟨⟨?_,e1⟩,o_⟩
 all_goals first|(rw[AiI ‹_› ‹_›] at hx;exact hx)|(rw[AiF ‹_› ‹_›] at hx;exact hx)|(rw[Ah7 ‹_› ‹_›] at hx;exact hx)|(rw[Aiw ‹_› ‹_›] at hx;exact hx))
def Ag4 {l:Sd_} {k:Int} (h0:0<=k) (hk:k<l.conns.length):szL G9 (finish1 l k).conns+szL FN (finish1 l k).guesses<=szL G9 l.conns+szL FN l.guesses:=by
 have c1:=AcL h0 hk;have hg:=AfH l.guesses (l.conns.getD k.toNat default).to (l.conns.getD k.toNat default).bd;rw[TQ];simp only[G9] at c1;unfold finish1 finishC;split
 ·split<;>(dsimp only;omega)
 ·split<;>(dsimp only;omega)
def actOf (l:Sd_) (n:Int):Sd_×Bool:=if n=0 then arrivePart l else if n=1 then requestNext l else if n=2 then guessNext l else if n=3 then transfer l 20 else transfer l 200
def okAct (l:Sd_):Prop:=okArr l/\okRN l/\okGN l/\okTr l
def Kp (p:Sa_):Prop:=okTo p/\-9223372036854775808<=p.block/\p.block<=9223372036854775807
def Wf {p q:Sa_} (h:Kp p) (hs:q.bf=p.bf) (hm:q.bh=p.bh) (hb:q.block=p.block):Kp q:=by
 unfold Kp okTo at *
 rw[hs,hm,hb];exact h
def WW (p:Sa_) (m:Int) (to d:ByteArray) (n:Int):(newSlot p m to d n).to=(parseAddr to p.addr.host).1:=by unfold newSlot;split<;>rfl
def WF {p:Sa_} (h:Kp p) (m:Int) (to d:ByteArray) (n:Int):Kp (addSlot p m to d n).1:=by
 unfold addSlot;split
 ·refine⟨⟨λs hs=>?_,h.1.2⟩,h.2⟩;rcases Qb8.1 hs with q|q
  ·exact h.1.1 s q
  ·rw[List.mem_singleton.1 q,WW];have:=Hh to p.addr.host;omega
 ·exact h
def Ahk {p:Sa_} (h:Kp p) {a:Sb_} (ha:szAddr a<=16):Kp (askModule p a):=by
 unfold askModule;split
 ·exact h
 ·refine⟨⟨h.1.1,λm hm=>?_⟩,h.2⟩;rcases Qb8.1 hm with q|q
  ·exact h.1.2 m (List.mem_of_mem_take q)
  ·rcases Qd2.1 q with q|q
   ·rw[q];have e:(newMod p a).to=a:=by unfold newMod;first|rfl|(split<;>rfl)
    rw[e];omega
   ·exact h.1.2 m (List.mem_of_mem_drop q)
def Afc {p:Sa_} (h:Kp p) (to:ByteArray):Kp (addEntry p to):=by
 unfold addEntry;split
 ·exact Wf (Ahk h (Hh to p.addr.host)) rfl rfl rfl
 ·exact h
def Aam {p:Sa_} (h:Kp p) (t:Si_) (n:Int):Kp (element p t n):=by
 unfold element;split
 ·exact WF h ..
 ·split
  ·exact WF h ..
  ·exact h
def AbY {p:Sa_} (h:Kp p) (n:Int):Kp (script p n):=by
 unfold script;split
 ·split
  ·exact Wf h rfl rfl rfl
  ·exact h
 ·split
  ·exact WF h ..
  ·split
   ·exact Afc h ..
   ·have hb:=Mk p 3 ((findAttr (p.ba.bi.getD n.toNat default).bo ⟨#[115,114,99]⟩).getD ⟨#[]⟩) ((findAttr (p.ba.bi.getD n.toNat default).bo ⟨#[100,105,103,101,115,116]⟩).getD ⟨#[]⟩) n;exact⟨(WF h ..).1,by dsimp only;omega,by dsimp only;omega⟩
def AgX {p:Sa_} (h:Kp p) (s:ByteArray):Kp (say p s):=by
 unfold say;split
 ·exact Wf h rfl rfl rfl
 ·exact h
def AfV {p:Sa_} (h:Kp p) (c:ByteArray) (w:Bool):Kp (runCode p c w):=by
 unfold runCode;split
 ·exact Wf h rfl rfl rfl
 ·exact Wf h rfl rfl rfl
def Aff {p:Sa_} (h:Kp p):Kp (takeToken p).1:=by
 unfold takeToken;split
 ·exact h
 ·have ht:Kp (taken p (p.bn.getD 0 default)):=Wf h rfl rfl rfl;show Kp (takeTok p _);unfold takeTok;split
  ·exact Aam ht _ _
  ·split
   ·exact AbY ht _
   ·exact ht
def Ae4 {p:Sa_} (h:Kp p):Kp { p with block:=0 }:=⟨h.1,by dsimp only;omega,by dsimp only;omega⟩
def Ac4 {p:Sa_} (h:Kp p):Kp (stepParser p).1:=by
 unfold stepParser;split
 ·unfold stepInline;split
  ·exact Wf (AfV h _ _) rfl rfl rfl
  ·exact h
 ·split
  ·unfold stepBlock;split
   ·exact Ae4 h
   ·split
    ·exact h
    ·split
     ·exact Ae4 (AfV h _ _)
     ·exact Ae4 h
  ·exact Aff h
def Qv (p:Sa_):∀ (l:List Sb_) (q:Sa_),Kp q->Kp (enterAll p q l)
 | [],q,h=>h
 | b::l,q,h=>by
  refine Qv p l (enter1 p q b) ?_;unfold enter1;split
  ·exact h
  ·exact Wf h rfl rfl rfl
def AeO {p:Sa_} (h:Kp p) (a:Sb_):Kp (enter p a):=by
 unfold enter;split
 ·exact AgX h _
 ·exact Qv p _ p h
def AgV {p:Sa_} (h:Kp p):Kp (stepTail p).1:=by
 unfold stepTail;split
 ·exact h
 ·split
  ·unfold tailDefer;split
   ·exact h
   ·split
    ·exact Wf (AfV h _ _) rfl rfl rfl
    ·exact Wf h rfl rfl rfl
  ·split
   ·unfold tailEnter;split
    ·exact h
    ·exact Wf (AeO h _) rfl rfl rfl
   ·split
    ·exact h
    ·exact Wf (AgX h _) rfl rfl rfl
def AeU:∀ (n:Nat) (p:Sa_),Kp p->Kp (adv n p)
 | 0,p,h=>h
 | n+1,p,h=>by
  rw[adv];split
  ·refine AeU n _ ?_;unfold step1;split
   ·exact Ac4 h
   ·exact AgV h
  ·exact h
def AeL:∀ (l:List Sb_) (p:Sa_),Kp p->(∀ b,b∈l->b.host.size<=8/\b.path.size<=8)->Kp (l.foldl askModule p)
 | [],p,h,_=>h
 | b::l,p,h,hb=>AeL l (askModule p b) (Ahk h (by have:=hb b Qd3;simp only[szAddr];omega)) λc hc=>hb c (Qc3 _ hc)
def AcM (p:Sa_) (a:Sb_) (x:Sc_) (s:Sl_):(fillF p a x s).to=s.to:=by
 unfold fillF;split
 ·unfold fillS;split<;>rfl
 ·rfl
def Mu {α:Type} {f:α->α} {m:α}:∀ {l:List α} {i:Nat},m∈l.modify i f->m∈l\/∃ z,z∈l/\m=f z
 | [],0,h=>.inl h
 | [],_+1,h=>.inl h
 | z::l,0,h=>by
  rcases Qd2.1 (show m∈f z::l from h) with q|q
  ·exact .inr ⟨z,Qd3,q⟩
  ·exact .inl (Qc3 _ q)
 | z::l,i+1,h=>by
  rcases Qd2.1 (show m∈z::l.modify i f from h) with q|q
  ·exact .inl (by rw[q];exact Qd3)
  ·rcases Mu q with q|⟨w,h1,h2⟩
   ·exact .inl (Qc3 _ q)
   ·exact .inr ⟨w,Qc3 _ h1,h2⟩
def Acr {p:Sa_} (h:Kp p) (a:Sb_) (x:Sc_):Kp (fillM0 p a x):=by
 refine⟨⟨h.1.1,λm hm=>?_⟩,h.2⟩;rcases Mu (show m∈p.bh.modify (findMod p.bh a).toNat (fillM p x) from hm) with q|⟨z,h1,h2⟩
 ·exact h.1.2 m q
 ·rw[h2];exact h.1.2 z h1
def Rn {p:Sa_} (h:Kp p) (a:Sb_) (x:Sc_):Kp (takeAnswer p a x):=by
 have h1:Kp (fillAll p a x):=by refine⟨⟨λs hs=>?_,h.1.2⟩,h.2⟩;obtain⟨z,hz,rfl⟩:=Qg1.1 (show s∈p.bf.map (fillF p a x) from hs);rw[AcM];exact h.1.1 z hz
 refine AeU 2000 _ ?_;unfold fillModule;split
 ·exact h1
 ·rename_i hc;exact AeL _ _ (Acr h1 a x) (LZ (x:=x) (show 0<=findMod (fillAll p a x).bh a from o_)).1
def Ahy {p:Sa_} (h:Kp p) (s:ByteArray):Kp (arriveText p s):=by
 unfold arriveText;split
 ·exact h
 ·exact Wf h rfl rfl rfl
def AiK {p:Sa_} (h:Kp p):Kp (endPage p):=by
 unfold endPage;split
 ·exact h
 ·exact Wf h rfl rfl rfl
def Je (p:Sa_) (m:Int) (to d:ByteArray) (n:Int):(addSlot p m to d n).1.tok=p.tok:=by unfold addSlot;split<;>rfl
def AbI (p:Sa_) (a:Sb_):(askModule p a).tok=p.tok:=by unfold askModule;split<;>rfl
def Tg (p:Sa_) (to:ByteArray):(addEntry p to).tok=p.tok:=by
 unfold addEntry;split
 ·exact AbI p _
 ·rfl
def Va (p:Sa_) (t:Si_) (n:Int):(element p t n).tok=p.tok:=by
 unfold element;split
 ·exact Je ..
 ·split
  ·exact Je ..
  ·rfl
def Xz (p:Sa_) (n:Int):(script p n).tok=p.tok:=by
 unfold script;split
 ·split<;>rfl
 ·split
  ·exact Je ..
  ·split
   ·exact Tg ..
   ·exact Je p ..
def Aau (p:Sa_) (s:ByteArray):(say p s).tok=p.tok:=by unfold say;split<;>rfl
def KF (p:Sa_) (c:ByteArray) (w:Bool):(runCode p c w).tok=p.tok:=by unfold runCode;split<;>rfl
def Rv (p:Sa_):(takeToken p).1.tok=p.tok:=by
 unfold takeToken;split
 ·rfl
 ·show(takeTok p _).tok=_;unfold takeTok;split
  ·exact Va _ _ _
  ·split
   ·exact Xz _ _
   ·rfl
def XN (p:Sa_):(stepParser p).1.tok=p.tok:=by
 unfold stepParser;split
 ·unfold stepInline;split
  ·exact KF _ _ _
  ·rfl
 ·split
  ·unfold stepBlock;split
   ·rfl
   ·split
    ·rfl
    ·split
     ·exact KF _ _ _
     ·rfl
  ·exact Rv p
def M3 (p:Sa_):∀ (l:List Sb_) (q:Sa_),(enterAll p q l).tok=q.tok
 | [],q=>rfl
 | b::l,q=>by have:=M3 p l (enter1 p q b);refine this.trans ?_;unfold enter1;split<;>rfl
def Abp (p:Sa_) (a:Sb_):(enter p a).tok=p.tok:=by
 unfold enter;split
 ·exact Aau _ _
 ·exact M3 p _ p
def Adi (p:Sa_):(stepTail p).1.tok=p.tok:=by
 unfold stepTail;split
 ·rfl
 ·split
  ·unfold tailDefer;split
   ·rfl
   ·split
    ·exact KF _ _ _
    ·rfl
  ·split
   ·unfold tailEnter;split
    ·rfl
    ·exact Abp _ _
   ·split
    ·rfl
    ·exact Aau _ _
def T8:∀ (n:Nat) (p:Sa_),(adv n p).tok=p.tok
 | 0,p=>rfl
 | n+1,p=>by
  rw[adv];split
  ·refine(T8 n _).trans ?_;unfold step1;split
   ·exact XN p
   ·exact Adi p
  ·rfl
def VP:∀ (l:List Sb_) (p:Sa_),(l.foldl askModule p).tok=p.tok
 | [],p=>rfl
 | b::l,p=>(VP l (askModule p b)).trans (AbI p b)
def PU (p:Sa_) (a:Sb_) (x:Sc_):(takeAnswer p a x).tok=p.tok:=by
 refine(T8 2000 _).trans ?_;unfold fillModule;split
 ·rfl
 ·exact VP _ _
def Yp {all:List Sp_}:∀ {l:List Sp_} {k:Int},entOk all l k=true->∀ e,e∈l->Ad e.bd<=700
 | [],_,_,e,he=>by cases he
 | y::l,k,h,e,he=>Lo (JX h e he)
def okNg (G:Nat) (n:Ss_):Prop:=szL Ai n.servers<=1048576/\szCache n.cache<=2097152/\(∀ e,e∈n.cache.bg->Ad e.bd<=1048576)/\szL Gd n.log+2100000*G<=7000000000
def XP {G:Nat} {n:Ss_} (h:okNg G n):okNt n:=⟨by simp only[szNet];have:=h.1;have:=h.2.1;have:=h.2.2.2;omega,by have:=h.2.1;omega,h.1,h.2.2.1⟩
def Aid {G:Nat} {n:Ss_} (h:okNg G n):okNk n:=⟨by simp only[szNet];have:=h.1;have:=h.2.2.2;omega,by have:=h.2.1;omega⟩
def MH {G:Nat} {n:Ss_} (h:okNg (G+1) n):okNg G n:=⟨h.1,h.2.1,h.2.2.1,by have:=h.2.2.2;omega⟩
def keep_ng {G:Nat} {n:Ss_} (h:okNg G n) (t:ByteArray) (a:Sb_) (x:Sc_):okNg G (keepAnswer n t a x):=by
 unfold keepAnswer;split
 ·refine⟨h.1,Lf n.cache t a x n.now h.2.1 o_,λe he=>?_,h.2.2.2⟩;have he:e∈(storeEntry n.cache t a x n.now).bg:=he;unfold storeEntry at he;split at he
  ·rename_i q;have q:=q.2.2.2;unfold isCache at q;rw[Qa2] at q;exact Qd1 (Yp q.1 e he) o_
  ·exact h.2.2.1 e he
 ·exact h
def Aec {G:Nat} {n:Ss_} (h:okNg (G+1) n) {t:ByteArray} {a:Sb_} (g:Bool) (ht:t.size<=2097152) (ha:szAddr a<=16):okNg G (logSent n t a g):=by
 have h4:=h.2.2.2;unfold logSent;split
 ·refine⟨h.1,h.2.1,h.2.2.1,?_⟩;show szL Gd (n.log++[⟨t,a,g⟩])+2100000*G<=7000000000;rw[En];simp only[Gd];omega
 ·exact MH h
def QM {G:Nat} {n:Ss_} (h:okNg (G+1) n) {t:ByteArray} (a:Sb_) (g:Bool) (ht:t.size<=2097152):okNg G (fetchNow n t a g).1:=by
 unfold fetchNow;split
 ·exact MH h
 ·rename_i hn;split
  ·exact MH h
  ·have ha:szAddr a<=16:=by
    have e:(isName a.host&&isName a.path)=true:=by
     cases q:(isName a.host&&isName a.path) with
     | true=>rfl
     | false=>exact absurd (by first|exact q|(rw[q];rfl)|(simp[q])) hn
    rw[Qa2] at e;have a1:=Hz e.1;have a2:=Hz e.2;simp only[szAddr];omega
   dsimp only;split
   ·exact Aec h g ht ha
   ·exact keep_ng (Aec h g ht ha) _ _ _
def okL (G:Nat) (l:Sd_):Prop:=(∃ Q M R,okAll l.page Q M R/\Q+740000*l.conns.length+8000000*G<=889000000000/\M+600*wCs l.conns+250000*G<=48000000000/\R+20*wCs l.conns+10000*G<=18000000000)/\(Kp l.page/\l.page.addr.host.size<=2097152/\l.page.tok.rest.size+szL Ae l.parts<=2900000)/\(okCs l.conns/\l.conns.length<=1048576/\l.guesses.length+l.conns.length+G<=4194304/\okGs l.guesses)/\okNg G l.net
def K7 {G:Nat} {l:Sd_} (h:okL (G+1) l):okL G l:=by
 obtain⟨⟨Q,M,R,h1,h2,h3,h4⟩,h5,⟨h6,h7,h8,h9⟩,h10⟩:=h;exact⟨⟨Q,M,R,h1,o_,o_,o_⟩,h5,⟨h6,h7,o_,h9⟩,MH h10⟩
def AeQ {G:Nat} {l:Sd_} (h:okL G l):okAct l:=by
 obtain⟨⟨Q,M,R,h1,h2,h3,h4⟩,⟨k1,k2,k3⟩,⟨h6,h7,h8,h9⟩,h10⟩:=h;have hf:okFM l.page:=⟨Q,M,R,h1,o_,o_,o_⟩;have hp:=CP (Ff hf);have hn:=XP h10;have hl:=Ab Ae l.parts;refine⟨⟨⟨by have:=hn.1;omega,h7,o_⟩,k3,Q,M,R,h1,o_,o_,o_⟩,⟨⟨⟨hf,k1.1,o_⟩,k1.2.1,k1.2.2,o_⟩,⟨h7,h6⟩,⟨o_,h9⟩,hn⟩,⟨hn,⟨hp.1,λt ht=>?_,o_⟩,o_,h7,o_⟩,⟨⟨Q,M,R,h1,o_,o_,o_⟩,⟨h6,h7,o_⟩,Aid h10⟩,o_⟩;have:=h1.1.1 t ht;omega
def Af5 {l:Sd_}:(arrPage l).addr=l.page.addr:=by
 unfold arrPage;have e:(arriveText l.page (l.parts.getD 0 default)).addr=l.page.addr:=by unfold arriveText;split<;>rfl
 split
 ·refine Eq.trans ?_ e;unfold endPage;split<;>rfl
 ·exact e
def AdI {G:Nat} {l:Sd_} (h:okL (G+1) l):okL G (arrivePart l).1:=by
 by_cases hp:l.parts.length=0
 ·rw[Y2 hp];exact K7 h
 ·rw[NJ hp];obtain⟨⟨Q,M,R,h1,h2,h3,h4⟩,⟨k1,k2,k3⟩,⟨h6,h7,h8,h9⟩,h10⟩:=h;have hg:=drop_cons (l:=l.parts) (i:=0) o_;have hz:szL Ae l.parts=(l.parts.getD 0 default).size+1+szL Ae (l.parts.drop 1):=by have e:szL Ae l.parts=szL Ae (l.parts.drop 0):=rfl;rw[e,hg,Ah]
  obtain⟨a1,a2,a3⟩:=Aeg h1 o_;have hk:Kp (arrPage l):=by
   unfold arrPage;split
   ·exact AiK (Ahy k1 _)
   ·exact Ahy k1 _
  have et:(advance (arrPage l)).tok=(arrPage l).tok:=T8 2000 _;have ea:(advance (arrPage l)).addr=l.page.addr:=(QO 2000 _).trans Af5;refine⟨⟨_,_,_,P2 a2,by dsimp only;omega,by dsimp only;omega,by dsimp only;omega⟩,⟨AeU 2000 _ hk,by dsimp only;rw[ea];exact k2,by dsimp only;rw[et];omega⟩,⟨h6,h7,by dsimp only;omega,h9⟩,MH h10⟩
def ZW {l:List Sk_} {a:Sb_} {x:Sc_} {g:Bool} (h:okCs l) (ha:szAddr a<=4000000) (hx:Ad x<=1048576):okCs (openConn l a x g).1/\(openConn l a x g).1.length<=l.length+1/\((openConn l a x g).1.length<=3\/(openConn l a x g).1.length<=l.length)/\wCs (openConn l a x g).1<=wCs l+400:=by
 unfold openConn;split
 ·exact⟨h,Nat.le_succ _,.inr (Qa9 _),Qc6 _ _⟩
 ·rename_i q;refine⟨λc hc=>?_,by simp only[Qa1,Qa7,Qb1];omega,.inl (by simp only[Qa1,Qa7,Qb1];omega),?_⟩
  ·rcases Qb8.1 hc with q|q
   ·exact h c q
   ·rw[List.mem_singleton.1 q];exact⟨hx,ha⟩
  ·unfold wCs;simp only[List.map_append,Qd0,List.map_nil,List.sum_append,List.sum_cons,List.sum_nil];have:wB x<=400:=Nat.min_le_left _ _;omega
def AfD {l:List Sm_} (h:okGs l) (a:Sb_):okGs (useGuess l a).1/\(useGuess l a).1.length=l.length:=by
 unfold useGuess;split
 ·exact⟨h,rfl⟩
 ·refine⟨λg hg=>?_,Qg4 ..⟩;rcases Mu hg with q|⟨z,h1,h2⟩
  ·exact h g q
  ·rw[h2];exact h z h1
def YH {G:Nat} {l:Sd_} (h:okL (G+1) l):okL G (requestNext l).1:=by
 have hm:=K7 h;obtain⟨⟨Q,M,R,h1,h2,h3,h4⟩,⟨k1,k2,k3⟩,⟨h6,h7,h8,h9⟩,h10⟩:=h;have hn:=XP h10;unfold requestNext;split
 ·exact hm
 ·rename_i hk;have ht:=Ads (l:=l) k1.1 o_;split
  ·obtain⟨g1,g2⟩:=AfD h9 (reqTo l);have hw:wB (useGuess l.guesses (reqTo l)).2.1<=400:=Nat.min_le_left _ _;have et:(takeAnswer l.page (reqTo l) (useGuess l.guesses (reqTo l)).2.1).tok=l.page.tok:=PU ..;have ea:(takeAnswer l.page (reqTo l) (useGuess l.guesses (reqTo l)).2.1).addr=l.page.addr:=I4 ..;exact⟨⟨_,_,_,Mx h1 (reqTo l) (useGuess l.guesses (reqTo l)).2.1,by dsimp only;omega,by dsimp only;omega,by dsimp only;omega⟩,⟨Rn k1 _ _,by dsimp only;rw[ea];exact k2,by dsimp only;rw[et];exact k3⟩,⟨h6,h7,by dsimp only;omega,g1⟩,keep_ng (MH h10) _ _ _⟩
  ·split
   ·exact hm
   ·obtain⟨o1,o2,o3,o4⟩:=ZW (g:=false) h6 ht (Fw (t:=l.page.addr.host) (a:=reqTo l) (g:=false) hn);exact⟨⟨Q,M,R,h1,by dsimp only;omega,by dsimp only;omega,by dsimp only;omega⟩,⟨k1,k2,k3⟩,⟨o1,by dsimp only;omega,by dsimp only;omega,h9⟩,QM h10 _ _ k2⟩
def Ad9 {G:Nat} {l:Sd_} (h:okL (G+1) l):∀ m:List Sb_,(∀ a,a∈m->szAddr a<=16)->okL G (nextGuess l m).1
 | [],_=>K7 h
 | a::m,hm=>by
  rw[nextGuess];split
  ·exact Ad9 h m λb hb=>hm b (Qc3 _ hb)
  ·obtain⟨⟨Q,M,R,h1,h2,h3,h4⟩,⟨k1,k2,k3⟩,⟨h6,h7,h8,h9⟩,h10⟩:=h;have ha:=hm a Qd3;obtain⟨o1,o2,o3,o4⟩:=ZW (g:=true) h6 (show szAddr a<=4000000 from o_) (Fw (t:=l.page.addr.host) (a:=a) (g:=true) (XP h10));exact⟨⟨Q,M,R,h1,by dsimp only;omega,by dsimp only;omega,by dsimp only;omega⟩,⟨k1,k2,k3⟩,⟨o1,by dsimp only;omega,by dsimp only;omega,h9⟩,QM h10 _ _ k2⟩
def Agn {G:Nat} {l:Sd_} (h:okL (G+1) l):okL G (guessNext l).1:=by
 unfold guessNext;split
 ·exact K7 h
 ·refine Ad9 h _ λa ha=>?_
  obtain⟨i,hi,he⟩:=List.mem_iff_getElem.1 ha;have:=H4 (p:=l.page) hi;rw[Qb0,Qa4 hi,he] at this;exact this
def Afe {l:List Sm_} {a:Sb_} {x:Sc_} (h:okGs l) (hx:Ad x<=1048576):okGs (addGuess l a x).1:=by
 unfold addGuess;split
 ·exact h
 ·intro g hg;rcases Qb8.1 hg with q|q
  ·exact h g q
  ·rw[List.mem_singleton.1 q];exact hx
def AcF {G:Nat} {l:Sd_} {k:Int} (h:okL G l) (h0:0<=k) (hk:k<l.conns.length):okL G (finish1 l k):=by
 obtain⟨⟨Q,M,R,h1,h2,h3,h4⟩,⟨k1,k2,k3⟩,⟨h6,h7,h8,h9⟩,h10⟩:=h;have c1:=Jo h0 hk;have c2:=TL h0 hk;have c3:=WB h0 hk h6;have ha:=Mx h1 (l.conns.getD k.toNat default).to (l.conns.getD k.toNat default).bd;have hg:=VW l.guesses (l.conns.getD k.toNat default).to (l.conns.getD k.toNat default).bd;have hr:=(h6 _ (AN (show k.toNat<l.conns.length from o_))).1;have hgo:=Afe (a:=(l.conns.getD k.toNat default).to) h9 hr;have et:(takeAnswer l.page (l.conns.getD k.toNat default).to (l.conns.getD k.toNat default).bd).tok=l.page.tok:=PU ..;have ea:(takeAnswer l.page (l.conns.getD k.toNat default).to (l.conns.getD k.toNat default).bd).addr=l.page.addr:=I4 ..;unfold finish1 finishC;dsimp only;split
 ·split
  ·exact⟨⟨_,_,_,ha,by dsimp only;omega,by dsimp only;omega,by dsimp only;omega⟩,⟨Rn k1 _ _,by dsimp only;rw[ea];exact k2,by dsimp only;rw[et];exact k3⟩,⟨c3,by dsimp only;omega,by dsimp only;omega,h9⟩,keep_ng h10 _ _ _⟩
  ·exact⟨⟨_,_,_,ha,by dsimp only;omega,by dsimp only;omega,by dsimp only;omega⟩,⟨Rn k1 _ _,by dsimp only;rw[ea];exact k2,by dsimp only;rw[et];exact k3⟩,⟨c3,by dsimp only;omega,by dsimp only;omega,h9⟩,h10⟩
 ·split
  ·exact⟨⟨_,_,_,h1,by dsimp only;omega,by dsimp only;omega,by dsimp only;omega⟩,⟨k1,k2,k3⟩,⟨c3,by dsimp only;omega,by dsimp only;omega,hgo⟩,h10⟩
  ·exact⟨⟨_,_,_,h1,by dsimp only;omega,by dsimp only;omega,by dsimp only;omega⟩,⟨k1,k2,k3⟩,⟨c3,by dsimp only;omega,by dsimp only;omega,h9⟩,h10⟩
def Aei {G:Nat}:∀ (n:Nat) (l:Sd_),okL G l->okL G (xfer n l)
 | 0,l,h=>h
 | n+1,l,h=>by
  rw[xfer];split
  ·exact h
  ·have hd:=Eb l.conns 0 o_;exact Aei n _ (AcF h o_ o_)
def Afv {G:Nat} {l:Sd_} (h:okL G l) (b:Int):okL G (moved l b):=by
 obtain⟨⟨Q,M,R,h1,h2,h3,h4⟩,⟨k1,k2,k3⟩,⟨h6,h7,h8,h9⟩,h10⟩:=h;have e1:=Cq l.conns b;have e2:=Aek l.conns b;unfold moved;exact⟨⟨Q,M,R,h1,by dsimp only;omega,by dsimp only;omega,by dsimp only;omega⟩,⟨k1,k2,k3⟩,⟨Y6 b h6,by dsimp only;omega,by dsimp only;omega,h9⟩,h10⟩
def XB {G:Nat} {l:Sd_} (h:okL G l) (b:Int):okL G (transfer l b).1:=by
 unfold transfer;split
 ·exact h
 ·exact Aei _ _ (Afv h b)
def AgO {G H:Nat} {l:Sd_} (h:okL H l) (hle:G<=H):okL G l:=by
 obtain⟨⟨Q,M,R,h1,h2,h3,h4⟩,h5,⟨h6,h7,h8,h9⟩,n1,n2,n3,n4⟩:=h;exact⟨⟨Q,M,R,h1,o_,o_,o_⟩,h5,⟨h6,h7,o_,h9⟩,n1,n2,n3,o_⟩
def wS (l:Sd_):Nat:=szL G9 l.conns+szL FN l.guesses
def Af0 (l:List Sm_) (a:Sb_):szL FN (useGuess l a).1=szL FN l:=by
 unfold useGuess;split
 ·rfl
 ·have key:∀ (m:List Sm_) (i:Nat),szL FN (m.modify i λg=>{ g with used:=true })=szL FN m:=by
   intro m
   induction m with
   | nil=>intro i;cases i<;>rfl
   | cons g m ih=>
    intro i;cases i with
    | zero=>show szL FN (_::m)=_;rw[Ah,Ah];rfl
    | succ i=>show szL FN (g::m.modify i _)=_;rw[Ah,Ah,ih]
  exact key _ _
def Yd {G:Nat} {l:Sd_} (h:okL (G+1) l):wS (requestNext l).1<=wS l+5100000:=by
 obtain⟨⟨Q,M,R,h1,h2,h3,h4⟩,⟨k1,k2,k3⟩,⟨h6,h7,h8,h9⟩,h10⟩:=h;unfold requestNext;split
 ·exact Qc6 _ _
 ·rename_i hk;have ht:=Ads (l:=l) k1.1 o_;split
  ·have e:=Af0 l.guesses (reqTo l);unfold wS;dsimp only;omega
  ·split
   ·exact Qc6 _ _
   ·have o:=Z2 l.conns (reqTo l) (fetchNow l.net l.page.addr.host (reqTo l) false).2 false;have r:=Fw (t:=l.page.addr.host) (a:=reqTo l) (g:=false) (XP h10);unfold wS;dsimp only;omega
def ZE {G:Nat} {l:Sd_} (h:okL (G+1) l):∀ m:List Sb_,(∀ a,a∈m->szAddr a<=16)->wS (nextGuess l m).1<=wS l+5100000
 | [],_=>Qc6 _ _
 | a::m,hm=>by
  rw[nextGuess];split
  ·exact ZE h m λb hb=>hm b (Qc3 _ hb)
  ·obtain⟨_,_,_,h10⟩:=h;have ha:=hm a Qd3;have o:=Z2 l.conns a (fetchNow l.net l.page.addr.host a true).2 true;have r:=Fw (t:=l.page.addr.host) (a:=a) (g:=true) (XP h10);unfold wS;dsimp only;omega
def AbS {G:Nat} {l:Sd_} (h:okL (G+1) l):wS (guessNext l).1<=wS l+5100000:=by
 unfold guessNext;split
 ·exact Qc6 _ _
 ·refine ZE h _ λa ha=>?_
  obtain⟨i,hi,he⟩:=List.mem_iff_getElem.1 ha;have:=H4 (p:=l.page) hi;rw[Qb0,Qa4 hi,he] at this;exact this
def ZS:∀ (n:Nat) (l:Sd_),wS (xfer n l)<=wS l
 | 0,l=>Qa9 _
 | n+1,l=>by
  rw[xfer];split
  ·exact Qa9 _
  ·have hd:=Eb l.conns 0 o_;exact Qd1 (ZS n _) (Ag4 o_ o_)
def KZ (l:Sd_) (b:Int):wS (transfer l b).1<=wS l:=by
 unfold transfer;split
 ·exact Qa9 _
 ·refine Qd1 (ZS _ _) ?_;have:=Ae2 l.conns b;unfold wS moved;dsimp only;omega
def Aar {G:Nat} {l:Sd_} (h:okL (G+1) l) (n:Int):wS (actOf l n).1<=wS l+5100000:=by
 unfold actOf;split
 ·unfold arrivePart;split
  ·exact Qc6 _ _
  ·exact Qc6 _ _
 ·split
  ·exact Yd h
  ·split
   ·exact AbS h
   ·split
    ·exact Qd1 (KZ l 20) (Qc6 _ _)
    ·exact Qd1 (KZ l 200) (Qc6 _ _)
def okW (G:Nat) (l:Sd_):Prop:=okL G l/\wS l+5100000*G<=10000000000
def AeC {G H:Nat} {l:Sd_} (h:okW H l) (hle:G<=H):okW G l:=⟨AgO h.1 hle,by have:=h.2;omega⟩
def AgN {l:Sd_} (h:okW 0 l):H0 l<=1125899906842624/\szNet l.net<=8000000000/\Ag l.page<=1000000000000:=by
 obtain⟨hl,hw⟩:=h;obtain⟨⟨Q,M,R,h1,h2,h3,h4⟩,⟨k1,k2,k3⟩,⟨h6,h7,h8,h9⟩,h10⟩:=hl;have hp:=J2 h1 o_ o_ o_;have hn:=(XP h10).1;refine⟨?_,hn,hp⟩;unfold wS at hw;unfold H0;omega
def AfY (a:Sb_) (x:Sc_):okAll (newPage a x).1 2000000 1100000000 10000000/\Kp (newPage a x).1/\(newPage a x).1.addr.host.size<=2097152/\(newPage a x).1.tok.rest.size=0/\((newPage a x).2=true->isResponse x=true):=by
 unfold newPage;split
 ·rename_i h;obtain⟨h0,h1,_⟩:=h;rw[Qa2] at h0;have a1:=Hz h0.1;have a2:=Hz h0.2;have h2:=Lo h1;have hp:=Acl x.bj;have hx:x.bj.size<=Ad x:=Nat.le_add_left _ _;refine⟨U9 ?_,⟨⟨(λs hs=>nomatch (show s∈[] from hs)),(λs hs=>nomatch (show s∈[] from hs))⟩,(by decide:(-9223372036854775808:Int)<=0),(by decide:(0:Int)<=9223372036854775807)⟩,?_,rfl,λ_=>h1⟩
  ·show szAddr a+AM (parsePolicy x.bj).1+_+_+szBuilder newBuilder+_+_+_+_+_<=2000000;have e2:szBuilder newBuilder<=100:=by decide
   simp only[GC,szL,List.map_nil,List.sum_nil,Qb1,szAddr];have e3:ByteArray.size (default:Sq_).rest=0:=rfl;omega
  ·show a.host.size<=2097152;omega
 ·refine⟨U9 (by decide),⟨⟨(λs hs=>nomatch (show s∈[] from hs)),(λs hs=>nomatch (show s∈[] from hs))⟩,(by decide:(-9223372036854775808:Int)<=0),(by decide:(0:Int)<=9223372036854775807)⟩,(by decide),rfl,λh=>by cases h⟩
def AfC {n:Ss_} (h:szNet n<=1048576):okNg 1201 n:=by
 simp only[szNet] at h;refine⟨o_,o_,λe he=>?_,o_⟩;have:=JB A0 (show e∈n.cache.bg from he);simp only[szCache] at h;simp only[A0] at this;omega
def Aga {n:Ss_} {a:Sb_} (cs:List Int) (h:szNet n<=1048576) (ha:szAddr a<=1048576):okW 1200 (startLoad n a cs).1:=by
 have hh:a.host.size<=szAddr a:=Qc6 _ _;have hf:=QM (AfC h) (t:=a.host) a false o_;obtain⟨p1,p2,p3,p4,p5⟩:=AfY a (fetchNow n a.host a false).2;have hcs:okCs []:=λc hc=>nomatch hc
 have hgs:okGs []:=λc hc=>nomatch hc
 unfold startLoad;split
 ·rename_i hb;have hr:=Lo (p5 hb);have hc:=Xe (fetchNow n a.host a false).2.body cs;have hx:(fetchNow n a.host a false).2.body.size<=Ad (fetchNow n a.host a false).2:=Qc6 _ _;refine⟨⟨⟨_,_,_,p1,?_,?_,?_⟩,⟨p2,p3,?_⟩,⟨hcs,?_,?_,hgs⟩,hf⟩,?_⟩
  ·show 2000000+740000*0+8000000*1200<=889000000000;omega
  ·show 1100000000+600*0+250000*1200<=48000000000;omega
  ·show 10000000+20*0+10000*1200<=18000000000;omega
  ·show(newPage a (fetchNow n a.host a false).2).1.tok.rest.size+szL Ae (cutText (fetchNow n a.host a false).2.body cs)<=2900000;omega
  ·show 0<=1048576;omega
  ·show 0+0+1200<=4194304;omega
  ·show 0+0+5100000*1200<=10000000000;omega
 ·refine⟨⟨⟨2000000,1100000000,10000000,U9 (show Ag (default:Sa_)<=2000000 by decide),?_,?_,?_⟩,⟨⟨⟨(λs hs=>nomatch (show s∈[] from hs)),(λs hs=>nomatch (show s∈[] from hs))⟩,(by decide:(-9223372036854775808:Int)<=0),(by decide:(0:Int)<=9223372036854775807)⟩,(show(default:Sa_).addr.host.size<=2097152 by decide),(show(default:Sa_).tok.rest.size+szL Ae []<=2900000 by decide)⟩,⟨hcs,?_,?_,hgs⟩,hf⟩,?_⟩
  ·show 2000000+740000*0+8000000*1200<=889000000000;omega
  ·show 1100000000+600*0+250000*1200<=48000000000;omega
  ·show 10000000+20*0+10000*1200<=18000000000;omega
  ·show 0<=1048576;omega
  ·show 0+0+1200<=4194304;omega
  ·show 0+0+5100000*1200<=10000000000;omega
abbrev Ni:Xct:=⟨[.u,.v (.sl .str)],[.el .str],λ(x_:Ty71_)=>0<x_.2.1.length/\x_.2.1.length<=256/\x_.2.1.all (λs=>decide (s.size<=150))=true,λ(x_:Ty71_) (y_:Ty48_)=>y_.1.size<=150⟩
def Ajz:=Akw.X Ni<|Xct.o [0,1,4] Akw.2 func182 (by
 rintro⟨(c:PUnit),(l:List ByteArray),_⟩ hp;refine ho (.dr Cv ((),(↑(List.length l):Int),()) λ(y1:Ty3_)=>.ob (0<=y1.1/\y1.1<(↑(List.length l):Int))<|.lx Ni (List.getD l y1.1.toNat default,())) ?_;refine CV trivial λ(y1:Ty3_) i1=>Ac ?_ λ_=>lxY ?_
 all_goals try simp only[std,Nat.reduceAdd] at *
 all_goals first|trivial|omega|skip
 have hm:=AN (i:=y1.fst.toNat) (l:=l) o_;simpa using Qc0.1 hp.2.2 _ hm)
abbrev Q4:Xct:=⟨[.u],[.el .str],λ(x_:Ty68_)=>True,λ(x_:Ty68_) (y_:Ty48_)=>y_.1.size<=2000⟩
abbrev FD (c:Unit):LInv:=⟨[⟨.s,3,true,.el .str⟩,⟨.s,4,true,.el .int⟩],λ_ (x_:Ty67_)=>0<=x_.2.1/\x_.2.1<=5/\x_.1.size+150*x_.2.1<=1000,λ(x_:Ty67_)=>x_.2.1.toNat⟩
def AiV:=Ajz.X Q4<|Xct.p (KP [0,2,3,4] [11]) (λ⟨c,_⟩=>lv [(3,FD c)]) Ajz.2 func87 (by
 rintro⟨(c:PUnit),_⟩ hp;refine ho (let q2_:=(⟨#[60,47,115,99,114,105,112,116,62]⟩:ByteArray);let q1_:=(⟨#[]⟩:ByteArray);let q0_:=(⟨#[60,115,99,114,105,112,116,62]⟩:ByteArray);.dr Ni ((),[q1_,(⟨#[60,112,62,104,105,60,47,112,62]⟩:ByteArray),(⟨#[60,108,105,110,107,32,104,114,101,102,61,115,116,121,108,101,62]⟩:ByteArray)],()) λ(y2:Ty48_)=>.dr Cv ((),(6:Int),()) λ(y3:Ty3_)=>lpx (FD c) (y2.1,(y3.1,())) λ(y4:Ty67_) bk4=>.br (decide (y4.2.1>0)) (.dr V1 ((),(2:Int),()) λ(y7:Ty48_)=>.ob (sameSize q0_ y7.1)<|.ob (sameSize (q0_++y7.1) q2_)<|.dr Ni ((),[(⟨#[60,115,99,114,105,112,116,32,115,114,99,61,97,112,112,62,60,47,115,99,114,105,112,116,62]⟩:ByteArray),q0_++y7.1++q2_,(⟨#[60,115,99,114,105,112,116,32,115,114,99,61,99,100,110,47,108,105,98,62,60,47,115,99,114,105,112,116,62]⟩:ByteArray),(⟨#[60,115,99,114,105,112,116,32,115,114,99,61,117,116,105,108,32,107,105,110,100,61,109,111,100,117,108,101,62,60,47,115,99,114,105,112,116,62]⟩:ByteArray),(⟨#[60,115,99,114,105,112,116,32,115,114,99,61,108,105,98,32,107,105,110,100,61,100,101,102,101,114,62,60,47,115,99,114,105,112,116,62]⟩:ByteArray),(⟨#[60,105,109,103,32,115,114,99,61,108,111,103,111,62]⟩:ByteArray),(⟨#[60,108,105,110,107,32,104,114,101,102,61,99,100,110,47,115,116,121,108,101,62]⟩:ByteArray),(⟨#[60,112,62,120,60,47,112,62]⟩:ByteArray),(⟨#[60,98,62]⟩:ByteArray),(⟨#[60,115,99,114,105,112,116,32,110,111,110,99,101,61,110,55,62,115,97,121,32,110,60,47,115,99,114,105,112,116,62]⟩:ByteArray),(⟨#[60,115,99,114,105,112,116,32,115,114,99,61,101,118,105,108,47,97,112,112,62,60,47,115,99,114,105,112,116,62]⟩:ByteArray),(⟨#[116,101,120,116]⟩:ByteArray)],()) λ(y11:Ty48_)=>.ob (sameSize y4.1 y11.1)<|.re (Value.string q1_)<|.bk (bk4 (y4.1++y11.1,(wr (y4.2.1-(1:Int)),())))) (.dr Ni ((),[q1_,q1_,(⟨#[60,112,62,101,110,100,60,47,112,62]⟩:ByteArray),(⟨#[60,112]⟩:ByteArray)],()) λ(y15:Ty48_)=>.ob (sameSize y4.1 y15.1)<|.lx Q4 (y4.1++y15.1,()))) ?_;refine F6 ?_ λo1 (y2:Ty48_) i2=>CV trivial λ(y3:Ty3_) i3=>Au ?_ λ(y4:Ty67_) i4=>Aa (λh5=>F6 ?_ λo6 (y7:Ty48_) i7=>Ac ?_ λ_=>Ac ?_ λ_=>F6 ?_ λo10 (y11:Ty48_) i11=>Ac ?_ λ_=>An<|A8 ?_) (λh5=>F6 ?_ λo14 (y15:Ty48_) i15=>Ac ?_ λ_=>lxY ?_)
 all_goals first|trivial|(refine⟨?_,?_,?_⟩<;>decide)|skip
 all_goals
  try simp only[std,Nat.reduceAdd,sameSize,Qa6,List.all_cons,List.all_nil] at *
  try simp only[std,Nat.reduceAdd,sameSize,Qa6] at *
  try simp(disch:=omega) only[wrapId',toNat1] at *
  try simp(disch:=omega) only[Qa3,Qa5]
 all_goals first|trivial|omega|grind[wrapId',toNat1,drop_cons,drop_end,good_len,maxLen,sameSize,ByteArray.size_append])
abbrev XL:Xct:=⟨[.u],[.el .addr],λ(x_:Ty68_)=>True,λ(x_:Ty68_) (y_:Ty4_)=>y_.1.host.size<=150/\y_.1.path.size<=150⟩
def Alg:=AiV.X XL<|Xct.o (KP [0,2,3,7] [8,14]) AiV.2 func197 (by
 rintro⟨(c:PUnit),_⟩ hp;refine ho (.dr Ug ((),()) λ(y1:Ty4_)=>.dr Cv ((),(12:Int),()) λ(y2:Ty3_)=>.br (y2.1==0) (.dr Ni ((),[(⟨#[]⟩:ByteArray),(⟨#[65]⟩:ByteArray),(⟨#[97,98,99,100,101,102,103,104,105]⟩:ByteArray),(⟨#[97,98,99,100,101,102,103,104]⟩:ByteArray)],()) λ(y5:Ty48_)=>.lx XL (⟨y5.1,y1.1.path⟩,())) (.br (y2.1==1) (.dr Ni ((),[(⟨#[]⟩:ByteArray),(⟨#[97,47,98]⟩:ByteArray),(⟨#[97,49]⟩:ByteArray)],()) λ(y8:Ty48_)=>.lx XL (⟨y1.1.host,y8.1⟩,())) (.lx XL (y1.1,())))) ?_;refine CV trivial λ(y1:Ty4_) i1=>CV trivial λ(y2:Ty3_) i2=>Aa (λh3=>F6 ?_ λo4 (y5:Ty48_) i5=>lxY ?_) (λh3=>Aa (λh6=>F6 ?_ λo7 (y8:Ty48_) i8=>lxY ?_) (λh6=>lxY ?_))
 all_goals try simp only[std,Nat.reduceAdd] at *
 all_goals first|trivial|omega|decide|exact⟨by decide,by decide,by decide⟩|exact⟨o_,o_⟩|exact⟨o_,o_,o_⟩|skip)
def wdsL (l:List ByteArray):List UInt8:=(l.map λx=>32::toL x).flatten
def Q0:∀ (l:List ByteArray) (w:ByteArray),toL (words9 w l)=toL w++wdsL l
 | [],w=>by simp[words9,wdsL]
 | x::l,w=>by rw[words9,Q0 l,Dg,Dg];simp[wdsL,toL]
def WK:∀ (l:List ByteArray) (p:List UInt8),(32:UInt8)∉p->(∀ x,x∈l->(32:UInt8)∉toL x)->Nq 32 (p++wdsL l)=p::l.map toL
 | [],p,hp,_=>by simp[wdsL,JQ hp]
 | x::l,p,hp,h=>by
  have e:p++wdsL (x::l)=p++32::(toL x++wdsL l):=by simp[wdsL]
  rw[e,HM _ hp,WK l (toL x) (h x Qd3) λy hy=>h y (Qc3 _ hy)];rfl
def Mb {p:UInt8->Bool} {b:UInt8} {l:List UInt8} (h:l.all p=true) (hb:p b=false):b∉l:=λq=>by
 have:=Qc0.1 h b q;rw[hb] at this;cases this
def Wc {s:ByteArray} (h:isName s=true):(32:UInt8)∉toL s/\(59:UInt8)∉toL s:=by
 unfold isName allB at h;rw[Qa2] at h;exact⟨Mb h.1 (by decide),Mb h.1 (by decide)⟩
def Ago {s:ByteArray} (h:isValue s=true):(59:UInt8)∉toL s:=by
 unfold isValue allB at h;rw[Qa2] at h;exact Mb h.1 (by decide)
def N0 {w:ByteArray} {l:List ByteArray} (hw:(32:UInt8)∉toL w) (h:l.all isName=true):(spl 32 (words9 w l)).drop 1=l:=by
 unfold spl;rw[Q0,WK l _ hw λx hx=>(Wc (Qc0.1 h x hx)).1,Qd0,List.drop_succ_cons,Qf1,Qf9]
 conv=>rhs;rw[<-List.map_id l]
 exact List.map_congr_left λx _=>Ct x
def Ul {w:ByteArray} {l:List ByteArray} (hw:(59:UInt8)∉toL w) (h:l.all isName=true):(59:UInt8)∉toL (words9 w l):=by
 rw[Q0];intro q;rcases Qb8.1 q with q|q
 ·exact hw q
 ·simp only[wdsL,List.mem_flatten,Qg1] at q;obtain⟨m,⟨x,hx,rfl⟩,q⟩:=q;rcases Qd2.1 q with q|q
  ·exact absurd q (by decide)
  ·exact(Wc (Qc0.1 h x hx)).2 q
def Aip {a b c:ByteArray} (ha:(59:UInt8)∉toL a) (hb:(59:UInt8)∉toL b) (hc:(59:UInt8)∉toL c):spl 59 (a++⟨#[59]⟩++b++⟨#[59]⟩++c)=[a,b,c]:=by
 have e:toL (a++⟨#[59]⟩++b++⟨#[59]⟩++c)=toL a++59::(toL b++59::toL c):=by simp[toL]
 unfold spl;rw[e,HM _ ha,HM _ hb,JQ hc];simp[Ct]
def Air {a b c d:ByteArray} (ha:(59:UInt8)∉toL a) (hb:(59:UInt8)∉toL b) (hc:(59:UInt8)∉toL c) (hd:(59:UInt8)∉toL d):spl 59 (a++⟨#[59]⟩++b++⟨#[59]⟩++c++⟨#[59,110,111,110,99,101,32]⟩++d)=[a,b,c,⟨#[110,111,110,99,101,32]⟩++d]:=by
 have e:toL (a++⟨#[59]⟩++b++⟨#[59]⟩++c++⟨#[59,110,111,110,99,101,32]⟩++d)=toL a++59::(toL b++59::(toL c++59::toL (⟨#[110,111,110,99,101,32]⟩++d))):=by simp[toL]
 have hn:(59:UInt8)∉toL (⟨#[110,111,110,99,101,32]⟩++d):=by
  rw[Dg];intro q;rcases Qb8.1 q with q|q
  ·exact absurd q (by decide)
  ·exact hd q
 unfold spl;rw[e,HM _ ha,HM _ hb,HM _ hc,JQ hn];simp[Ct]
def Tw {p:Sj_} (h:isPolicy p=true):(parsePolicy (formatPolicy p)).2=true:=by
 cases hs:p.set_ with
 | false=>
  have e:formatPolicy p=⟨#[]⟩:=by unfold formatPolicy;rw[Qa5 (by rw[hs,Bool.and_false];exact Bool.false_ne_true)]
  unfold parsePolicy;rw[Qa3 e]
 | true=>
  have h0:=h;simp only[isPolicy,hs,Qe8,Qa2,Qf6,Qa8] at h;obtain⟨⟨⟨⟨a1,a2⟩,a3,a4⟩,a5,a6⟩,a7⟩:=h;have k1:=Ul (w:=⟨#[115,99,114,105,112,116]⟩) (by decide) a1;have k2:=Ul (w:=⟨#[115,116,121,108,101]⟩) (by decide) a3;have k3:=Ul (w:=⟨#[105,109,103]⟩) (by decide) a5;have d1:=N0 (w:=⟨#[115,99,114,105,112,116]⟩) (by decide) a1;have d2:=N0 (w:=⟨#[115,116,121,108,101]⟩) (by decide) a3;have d3:=N0 (w:=⟨#[105,109,103]⟩) (by decide) a5;have key:3<=(spl 59 (formatPolicy p)).length/\polCand (formatPolicy p)=p/\0<(formatPolicy p).size:=by
   by_cases hn:p.nonce=⟨#[]⟩
   ·have e:formatPolicy p=words9 ⟨#[115,99,114,105,112,116]⟩ p.bp++⟨#[59]⟩++words9 ⟨#[115,116,121,108,101]⟩ p.styles++⟨#[59]⟩++words9 ⟨#[105,109,103]⟩ p.images:=by unfold formatPolicy;rw[Qa3 (by rw[h0,hs];rfl),Qa3 hn]
    have e2:=Aip k1 k2 k3;rw[e];refine⟨by rw[e2];simp,?_,?_⟩
    ·unfold polCand;rw[e2];simp only[List.getD_cons_zero,List.getD_cons_succ,Qa7,Qb1,d1,d2,d3];rw[Qa5 o_,<-hn,<-hs]
    ·rw[Qa6,Qa6,Qa6,Qa6,show ByteArray.size ⟨#[59]⟩=1 from rfl];omega
   ·have hv:isValue p.nonce=true:=by rcases a7 with q|q;exact absurd q hn;exact q
    have hz:0<p.nonce.size:=by simp only[isValue,Qa2,Qa8] at hv;omega
    have e:formatPolicy p=words9 ⟨#[115,99,114,105,112,116]⟩ p.bp++⟨#[59]⟩++words9 ⟨#[115,116,121,108,101]⟩ p.styles++⟨#[59]⟩++words9 ⟨#[105,109,103]⟩ p.images++⟨#[59,110,111,110,99,101,32]⟩++p.nonce:=by unfold formatPolicy;rw[Qa3 (by rw[h0,hs];rfl),Qa5 hn]
    have e2:=Air k1 k2 k3 (Ago hv);rw[e];have e3:(⟨#[110,111,110,99,101,32]⟩++p.nonce:ByteArray).size=6+p.nonce.size:=by rw[Qa6];rfl
    refine⟨by rw[e2];simp,?_,?_⟩
    ·unfold polCand;rw[e2];simp only[List.getD_cons_zero,List.getD_cons_succ,Qa7,Qb1,d1,d2,d3,e3];rw[Qa3 ⟨o_,o_⟩];have e4:(⟨#[110,111,110,99,101,32]⟩++p.nonce:ByteArray).extract 6 (6+p.nonce.size)=p.nonce:=by rw[<-Ct ((⟨#[110,111,110,99,101,32]⟩++p.nonce:ByteArray).extract 6 (6+p.nonce.size)),Be,Dg];have e5:toL (⟨#[110,111,110,99,101,32]⟩:ByteArray)=[110,111,110,99,101,32]:=rfl;rw[e5,Qb9 (by rw[Qa1,BD];exact Qa9 _)];show ofL (toL p.nonce)=_;exact Ct _
     rw[e4,<-hs]
    ·rw[Qa6];omega
  obtain⟨q1,q2,q3⟩:=key;unfold parsePolicy;rw[Qa5 (λq=>by rw[q] at q3;exact absurd q3 (by decide)),Qa3 ⟨q1,by rw[q2]⟩]
abbrev C5:Xct:=⟨[.u,.v (.el .int)],[.el .bd],λ(x_:Ty69_)=>1<=x_.2.1/\x_.2.1<=5,λ(x_:Ty69_) (y_:Ty7_)=>isResponse y_.1=true/\y_.1.status=200/\y_.1.body.size<=400/\y_.1.bj.size<=200⟩
def AjD:=Alg.X C5<|Xct.o (KP [0,1,4,5] [17]) Alg.2 func290 (by
 rintro⟨(c:PUnit),(k:Int),_⟩ hp;refine ho (.dr Jw ((),k,()) λ(y1:Ty48_)=>.dr Pm ((),[(0:Int),(5:Int),(50:Int)],()) λ(y3:Ty3_)=>.dr JD ((),(2:Int),()) λ(y4:Ty70_)=>.br (k==1) (.dr I2 ((),()) λ(y6:Ty28_)=>.cl AQ (y6.1,()) λz2=>.lx C5 (⟨(200:Int),k,y1.1,y3.1,y4.1,z2.1⟩,())) (.lx C5 (⟨(200:Int),k,y1.1,y3.1,y4.1,(⟨#[]⟩:ByteArray)⟩,()))) ?_;refine CV trivial λ(y1:Ty48_) i1=>F6 ?_ λo2 (y3:Ty3_) i3=>CV trivial λ(y4:Ty70_) i4=>Aa (λh5=>CV trivial λ(y6:Ty28_) i6=>Ei ?_ λo7 z2 ez2=>(lxY ?_)) (λh5=>lxY ?_)
 all_goals try subst_vars
 all_goals
  try have q:=KH i6
  try have q2:=Gn y6.1
  try have q3:=Tw i6
  try simp only[std,Nat.reduceAdd] at *
  try simp only[Qd2,List.not_mem_nil,or_false] at *
 all_goals first|omega|decide|skip
 all_goals simp only[isResponse,inRange,Qa2,Qa8]
 all_goals first|exact⟨⟨⟨o_,o_⟩,hp,o_,⟨o_,o_⟩,q3⟩,trivial,o_,o_⟩|exact⟨⟨⟨o_,o_⟩,hp,o_,⟨o_,o_⟩,rfl⟩,trivial,o_,by decide⟩|exact⟨⟨⟨o_,o_⟩,hp,o_,⟨o_,o_⟩,q3⟩,o_,o_⟩|exact⟨⟨⟨o_,o_⟩,hp,o_,⟨o_,o_⟩,rfl⟩,o_,by decide⟩|skip)
def srvOk (l:List Su_) (i:Nat):Bool:=isName (l.getD i default).path&&(isResponse (l.getD i default).bd&&(List.range i).all λk=>!decide ((l.getD k default).path=(l.getD i default).path))
def isServer (s:Sh_):Bool:=(List.range s.files.length).all (srvOk s.files)&&(isName s.host&&decide (s.files.length<=10))
def Wj {f:Nat->Bool} {n:Nat} (h:(List.range n).all f=true) (h2:f n=true):(List.range (n+1)).all f=true:=by rw[List.range_succ,List.all_append,h];simp[h2]
def Aea {f:Nat->Bool} {n m:Nat} (h:m<n) (h2:f m=false):(List.range n).all f=false:=by
 rw[Bool.eq_false_iff];intro q;rw[Qc0.1 q m (Qg0.2 h)] at h2;cases h2
def Uj {s:Sh_} {i:Nat} (h:i<s.files.length) (h2:srvOk s.files i=false):isServer s=false:=by
 unfold isServer;rw[Aea h h2];rfl
def QI {α:Type} [Inhabited α] (f:α->Nat) (g:α->α) (k:Nat):∀ (l:List α) (i:Nat),(i<l.length->f (g (l.getD i default))<=f (l.getD i default)+k)->szL f (l.modify i g)<=szL f l+k:=by
 intro l
 induction l with
 | nil=>intro i _;cases i<;>exact Qc6 _ _
 | cons x l ih=>
  intro i h;cases i with
  | zero=>
   have h2:f (g x)<=f x+k:=h (by simp);show szL f (g x::l)<=_;rw[Ah,Ah];omega
  | succ i=>
   have h2:=ih i (λq=>h (by simpa using q));show szL f (x::l.modify i g)<=_;rw[Ah,Ah];omega
def Abf (L:List Sh_) (n k:Nat) (x:Sc_):szL Ai (L.modify n λz=>{ host:=z.host,files:=(L.getD n default).files.modify k λz=>{ path:=z.path,bd:=x }})<=szL Ai L+Ad x:=by
 refine QI _ _ _ _ _ λh=>?_
 have h2:=QI Iq (λz=>{ path:=z.path,bd:=x }) (Ad x) (L.getD n default).files k (λ_=>by simp only[Iq];omega);simp only[Ai] at *;omega
def UP (L:List Sh_) (n:Nat) (p:ByteArray) (x:Sc_):szL Ai (L.modify n λz=>{ host:=z.host,files:=(L.getD n default).files++[{ path:=p,bd:=x }]})<=szL Ai L+(p.size+Ad x+1):=by
 refine QI _ _ _ _ _ λh=>?_
 have h2:szL Iq [({ path:=p,bd:=x }:Su_)]=p.size+Ad x+1:=by simp[szL,Iq];omega
 simp only[Ai,Ud,h2];omega
def AaR (L:List Sh_) (n:Nat):Ai (L.getD n default)<=szL Ai L:=by
 rcases Nat.lt_or_ge n L.length with h|h
 ·have:=C6 Ai h;omega
 ·rw[Qb0,List.getElem?_eq_none h];exact Nat.zero_le _
def Ou (L:List Sh_) (n:Nat):(L.getD n default).files.length<=szL Ai L:=by
 have h1:=AaR L n;have h2:=Ab Iq (L.getD n default).files;simp only[Ai] at h1;omega
def ZK (h:ByteArray) (l:List Sh_):szL Ai (l++[{ host:=h,files:=[]}])=szL Ai l+h.size+1:=by
 rw[Ud];simp[szL,Ai];omega
def U8 {s:Sh_} {i:Nat} (h:i<s.files.length) (h2:srvOk s.files i=false):false=isServer s:=(Uj h h2).symm
def Ahl {l:List Su_} {i:Nat} (h:isName (l.getD i default).path=false):srvOk l i=false:=by unfold srvOk;rw[h];rfl
def AgU {l:List Su_} {i:Nat} (h:isResponse (l.getD i default).bd=false):srvOk l i=false:=by unfold srvOk;rw[h,Bool.false_and,Bool.and_false]
def AgW {l:List Su_} {i k:Nat} (hk:k<i) (h:(l.getD k default).path=(l.getD i default).path):srvOk l i=false:=by
 unfold srvOk;rw[Aea hk (by rw[Qf4 h];rfl),Bool.and_false,Bool.and_false]
def AhA {l:List Su_} {i:Nat} (h1:isName (l.getD i default).path=true) (h2:isResponse (l.getD i default).bd=true) (h3:((List.range i).all λk=>!decide ((l.getD k default).path=(l.getD i default).path))=true):srvOk l i=true:=by unfold srvOk;rw[h1,h2,h3];rfl
def AfR {s:Sh_} {i:Nat} (h:i=s.files.length) (h2:(List.range i).all (srvOk s.files)=true):isServer s=(isName s.host&&decide (s.files.length<=10)):=by unfold isServer;rw[<-h,h2,Bool.true_and]
abbrev DL:Fct:=⟨[.v (.el .server)],[.el .bool],λ(x_:Sh_×Unit)=>Ai x_.1<=200000000,λ(x_:Sh_×Unit)=>(isServer x_.1,())⟩
abbrev DS (s:Sh_):LInv:=⟨[⟨.s,3,true,.el .int⟩,⟨.b,1,false,.el .server⟩],λ(z_ x_:Ty59_)=>(0<=x_.1/\x_.1<=s.files.length/\(List.range x_.1.toNat).all (srvOk s.files)=true)/\x_.2.1=z_.2.1,λ(x_:Ty59_)=>s.files.length-x_.1.toNat⟩
abbrev DT (s:Sh_):LInv:=⟨[⟨.s,4,true,.el .int⟩,⟨.s,3,true,.el .int⟩,⟨.b,1,false,.el .server⟩],λ(z_ x_:Ty142_)=>(x_.2.1=z_.2.1/\0<=x_.1/\x_.1<=x_.2.1/\((List.range x_.1.toNat).all λj=>!decide ((s.files.getD j default).path=(s.files.getD x_.2.1.toNat default).path))=true)/\x_.2.2.1=z_.2.2.1,λ(x_:Ty142_)=>(x_.2.1-x_.1).toNat⟩
def Al2:=AjD.a DL<|Fct.p (KP [1,2,3,4] [9,29,32,47]) (λ⟨s,_⟩=>λ|2=>some (DS s)|7=>some (DT s)|_=>none) AjD.2 func294 (by
 rintro⟨(s:Sh_),_⟩ hp;refine ho (lpx (DS s) ((0:Int),(s,())) λ(y1:Ty59_) bk1=>.br (decide (y1.1<(y1.2.1.files.length:Int))) (.ob (inB y1.1 y1.2.1.files.length)<|.cl BH ((y1.2.1.files.getD y1.1.toNat default).path,()) λz2=>.br (!z2.1) (.lf DL (false,())) (.ob (inB y1.1 y1.2.1.files.length)<|.cl AT ((y1.2.1.files.getD y1.1.toNat default).bd,()) λz3=>.br (!z3.1) (.lf DL (false,())) (lpx (DT s) ((0:Int),(y1.1,(y1.2.1,()))) λ(y9:Ty142_) bk9=>.br (decide (y9.1<y9.2.1)) (.ob (inB y9.1 y9.2.2.1.files.length)<|.ob (inB y9.2.1 y9.2.2.1.files.length)<|.br ((y9.2.2.1.files.getD y9.1.toNat default).path.toList==(y9.2.2.1.files.getD y9.2.1.toNat default).path.toList) (.lf DL (false,())) (.bk (bk9 (w1 y9.1,(y9.2.1,(y9.2.2.1,())))))) (.bk (bk1 (w1 y9.2.1,(y9.2.2.1,()))))))) (.cl BH (y1.2.1.host,()) λz4=>.br (z4.1) (.lf DL (decide ((y1.2.1.files.length:Int)<=10),())) (.lf DL (false,())))) ?_;refine Au ?_ λ(y1:Ty59_) i1=>Aa (λh2=>Ac ?_ λ_=>Af ?_ λ_=>(Aa (λh5=>lfY ?_) (λh5=>Ac ?_ λ_=>Af ?_ λ_=>(Aa (λh8=>lfY ?_) (λh8=>Au ?_ λ(y9:Ty142_) i9=>Aa (λh10=>Ac ?_ λ_=>Ac ?_ λ_=>Aa (λh13=>lfY ?_) (λh13=>A8 ?_)) (λh10=>A8 ?_)))))) (λh2=>Af ?_ λ_=>(Aa (λh17=>lfY ?_) (λh17=>lfY ?_)))
 all_goals
  have hl:=Ab Iq s.files;have hs:Ai s=s.host.size+szL Iq s.files:=rfl;have hg:=λ(i:Nat) (h:i<s.files.length)=>C6 Iq h
  try simp only[std,Nat.reduceAdd] at *
 all_goals try (obtain⟨⟨j1,j2,j3⟩,e1⟩:=i1;simp only[e1] at *)
 all_goals try (obtain⟨⟨k1,k2,k3,k4⟩,e9⟩:=i9;simp only[e9,k1] at *)
 all_goals first|omega|exact⟨o_,o_,rfl⟩|exact⟨o_,o_⟩|skip
 all_goals first|(have q:=hg y1.1.toNat o_;simp only[Iq,Ad] at q;omega)|skip
 all_goals first|exact U8 (i:=y1.1.toNat) o_ (Ahl ‹_›)|exact U8 (i:=y1.1.toNat) o_ (AgU ‹_›)|exact U8 (i:=y1.1.toNat) o_ (AgW (k:=y9.1.toNat) o_ ‹_›)|skip
 all_goals try simp(disch:=omega) only[wrapId',toNat1] at *
 all_goals first|exact⟨⟨⟨by first|rfl|trivial,o_,o_,Wj k4 (by rw[decide_eq_false ‹_›];rfl)⟩,by first|rfl|trivial⟩,o_⟩|skip
 all_goals
  try have q9:y9.1.toNat=y1.1.toNat:=o_
  try rw[q9] at k4
 all_goals first|exact⟨⟨⟨o_,o_,Wj j3 (AhA ‹_› ‹_› k4)⟩,by first|rfl|trivial⟩,o_⟩|skip
 all_goals try rw[AfR (i:=y1.1.toNat) o_ j3]
 all_goals first|(simp_all;done)|(simp_all;omega)|skip)
def okF (l:List Sh_):Prop:=∀ v,v∈l->∀ f,f∈v.files->f.bd.body.size<=400
def Wq {x:Sc_} (h:isResponse x=true):x.body.size<=400:=by
 simp only[isResponse,Qa2,Qa8] at h;exact h.2.2.1
def Afq {s:Sh_} (h:isServer s=true):∀ f,f∈s.files->f.bd.body.size<=400:=λf hf=>by
 obtain⟨i,hi,rfl⟩:=List.mem_iff_getElem.1 hf;unfold isServer at h;rw[Qa2] at h;have q:=Qc0.1 h.1 i (Qg0.2 hi);unfold srvOk at q;simp only[Qa2] at q;have:=Wq q.2.1;rw[Qb0,Qa4 hi] at this;exact this
def Pz {α:Type} [Inhabited α] {f:α->α} {m:α}:∀ {l:List α} {i:Nat},m∈l.modify i f->m∈l\/m=(l.modify i f).getD i default
 | [],0,h=>.inl h
 | [],_+1,h=>.inl h
 | z::l,0,h=>by
  rcases Qd2.1 (show m∈f z::l from h) with q|q
  ·exact .inr q
  ·exact .inl (Qc3 _ q)
 | z::l,i+1,h=>by
  rcases Qd2.1 (show m∈z::l.modify i f from h) with q|q
  ·exact .inl (q▸Qd3)
  ·rcases Pz q with q|q
   ·exact .inl (Qc3 _ q)
   ·exact .inr q
def Abe {L:List Sh_} {k:Nat} {g:Sh_->Sh_} (h:okF L) (hs:isServer ((L.modify k g).getD k default)=true):okF (L.modify k g):=λv hv=>by
 rcases Pz hv with q|q
 ·exact h v q
 ·rw[q];exact Afq hs
def Afl {L:List Sh_} (h:okF L) (x:ByteArray):okF (L++[{ host:=x,files:=[]}]):=λv hv=>by
 rcases Qb8.1 hv with q|q
 ·exact h v q
 ·rw[List.mem_singleton.1 q];exact λf hf=>nomatch hf
abbrev CT:Xct:=⟨[.v (.sl .server),.v (.el .addr),.v (.el .bd)],[.sl .server,.el .bool],λ(x_:Ty143_)=>szL Ai x_.1<=100000000/\szAddr x_.2.1<=1000/\Ad x_.2.2.1<=10000,λ(x_:Ty143_) (y_:Ty144_)=>szL Ai y_.1<=szL Ai x_.1+szAddr x_.2.1+Ad x_.2.2.1+10/\x_.1.length<=y_.1.length/\(isName x_.2.1.host=true/\isName x_.2.1.path=true/\isResponse x_.2.2.1=true->0<y_.1.length)/\(okF x_.1->okF y_.1)⟩
def AmB:=Al2.X CT<|Xct.o (KP [0,4,5,6,7,8,9,10] [18,35,70]) Al2.2 func189 (by
 rintro⟨(l:List Sh_),(a:Sb_),(x:Sc_),_⟩ hp;refine ho (let q7_:=(⟨a.host,[]⟩:Sh_);let q6_:=List Sh_;let q5_:=(⟨a.path,x⟩:Su_);let q2_:=(↑(List.length l):Int);let q0_:Out:=.cl Dm (l,()) λz7=>.lx CT (z7.1,false,());.cl Dm (l,()) λz2=>let q1_:=z2.1++[q7_];let q4_:=q1_.getD q2_.toNat default;.cl HJ (l,a.host,()) λ(z3:Ty3_)=>let q3_:=z2.1.getD z3.1.toNat default;.br (decide (z3.1<0)) (.ob (Ij (z2.1.length+[q7_].length) 40)<|.ix q2_ (q1_.length)<|.cl Ju (q1_.getD q2_.toNat default,a.path,()) λ(z4:Ty3_)=>.br (decide (z4.1>=0)) (.ix q2_ (q1_.length)<|.ix z4.1 (q4_.files.length)<|.lt (List Su_) (q4_.files.modify z4.1.toNat λz=>(⟨z.path,x⟩:Su_)) λz5=>.lt q6_ (q1_.modify q2_.toNat λz=>(⟨z.host,z5⟩:Sh_)) λz6=>.br (decide ((z6.length:Int)>4)) q0_ (.ix q2_ z6.length<|.cl DL (z6.getD q2_.toNat default,()) λz8=>.br (!z8.1) q0_ (.lx CT (z6,true,())))) (.ix q2_ (q1_.length)<|.ap (q4_.files.length+[q5_].length) 80<|.ob ((0:Int)<=q2_/\q2_<(q1_.length:Int))<|.re (q2_.toNat)<|.lt q6_ (q1_.modify q2_.toNat λz=>(⟨z.host,q4_.files++[q5_]⟩:Sh_)) λz10=>.br (decide ((z10.length:Int)>4)) q0_ (.ix q2_ z10.length<|.cl DL (z10.getD q2_.toNat default,()) λz12=>.br (!z12.1) q0_ (.lx CT (z10,true,()))))) (.ix z3.1 z2.1.length<|.cl Ju (z2.1.getD z3.1.toNat default,a.path,()) λ(z14:Ty3_)=>.br (decide (z14.1>=0)) (.ix z3.1 z2.1.length<|.ix z14.1 (q3_.files.length)<|.lt (List Su_) (q3_.files.modify z14.1.toNat λz=>(⟨z.path,x⟩:Su_)) λz15=>.lt q6_ (z2.1.modify z3.1.toNat λz=>(⟨z.host,z15⟩:Sh_)) λz16=>.br (decide ((z16.length:Int)>4)) q0_ (.ix z3.1 z16.length<|.cl DL (z16.getD z3.1.toNat default,()) λz18=>.br (!z18.1) q0_ (.lx CT (z16,true,())))) (.ix z3.1 z2.1.length<|.ap (q3_.files.length+[q5_].length) 80<|.ob (inB z3.1 z2.1.length)<|.re (z3.1.toNat)<|.lt q6_ (z2.1.modify z3.1.toNat λz=>(⟨z.host,q3_.files++[q5_]⟩:Sh_)) λz20=>.br (decide ((z20.length:Int)>4)) q0_ (.ix z3.1 z20.length<|.cl DL (z20.getD z3.1.toNat default,()) λz22=>.br (!z22.1) q0_ (.lx CT (z20,true,())))))) ?_;refine Ei ?_ λo1 z2 ez2=>(Ei ?_ λo2 z3 ez3=>(Aa (λh3=>Ac ?_ λ_=>Er ?_ λo5 o6=>Ei ?_ λo7 z4 ez4=>(Aa (λh8=>Er ?_ λo9 o10=>Er ?_ λo11 o12=>Ae1 λz5 ez5=>(Ae1 λz6 ez6=>(Aa (λh13=>Ei ?_ λo14 z7 ez7=>(lxY ?_)) (λh13=>Er ?_ λo15 o16=>Ei ?_ λo17 z8 ez8=>(Aa (λh18=>Ei ?_ λo19 z9 ez9=>(lxY ?_)) (λh18=>lxY ?_)))))) (λh8=>Er ?_ λo20 o21=>Ek ?_ λ_=>Ac ?_ λ_=>An<|Ae1 λz10 ez10=>(Aa (λh24=>Ei ?_ λo25 z11 ez11=>(lxY ?_)) (λh24=>Er ?_ λo26 o27=>Ei ?_ λo28 z12 ez12=>(Aa (λh29=>Ei ?_ λo30 z13 ez13=>(lxY ?_)) (λh29=>lxY ?_))))))) (λh3=>Er ?_ λo31 o32=>Ei ?_ λo33 z14 ez14=>(Aa (λh34=>Er ?_ λo35 o36=>Er ?_ λo37 o38=>Ae1 λz15 ez15=>(Ae1 λz16 ez16=>(Aa (λh39=>Ei ?_ λo40 z17 ez17=>(lxY ?_)) (λh39=>Er ?_ λo41 o42=>Ei ?_ λo43 z18 ez18=>(Aa (λh44=>Ei ?_ λo45 z19 ez19=>(lxY ?_)) (λh44=>lxY ?_)))))) (λh34=>Er ?_ λo46 o47=>Ek ?_ λ_=>Ac ?_ λ_=>An<|Ae1 λz20 ez20=>(Aa (λh50=>Ei ?_ λo51 z21 ez21=>(lxY ?_)) (λh50=>Er ?_ λo52 o53=>Ei ?_ λo54 z22 ez22=>(Aa (λh55=>Ei ?_ λo56 z23 ez23=>(lxY ?_)) (λh55=>lxY ?_)))))))))
 all_goals try subst_vars
 all_goals
  have hs:=ZK a.host l;have ha:szAddr a=a.host.size+a.path.size:=rfl;have hl:=Ab Ai l;have hx:=DN (λs:Sh_=>decide (s.host=a.host)) l 0 (Int.le_refl _);have hy:=DN (λf:Su_=>decide (f.path=a.path)) ((l++[({ host:=a.host,files:=[]}:Sh_)]).getD ((l.length:Int)).toNat default).files 0 (Int.le_refl _);have hz:=DN (λf:Su_=>decide (f.path=a.path)) (l.getD (fidx (λs:Sh_=>decide (s.host=a.host)) l 0).toNat default).files 0 (Int.le_refl _);have hf:=Ou (l++[({ host:=a.host,files:=[]}:Sh_)]) ((l.length:Int)).toNat;have hv:=Ou l (fidx (λs:Sh_=>decide (s.host=a.host)) l 0).toNat;try simp only[std,Nat.reduceAdd] at *
  try refine⟨?_,?_,λe=>?_,λhF=>?_⟩
 all_goals first|omega|exact Qa9 _|(simp only[Qa1,Qg4,Qa7,Qb1];omega)|exact Qd1 (Abf _ _ _ _) o_|exact Qd1 (UP _ _ _ _) o_|exact Qd1 (AaR _ _) (Qd1 (Abf _ _ _ _) o_)|exact Qd1 (AaR _ _) (Qd1 (UP _ _ _ _) o_)|skip
 all_goals first|exact hF|exact Abe (Afl hF _) ‹_›|exact Abe hF ‹_›|skip
 all_goals try (rcases Nat.eq_zero_or_pos l.length with q|q;(obtain rfl:=List.length_eq_zero_iff.1 q);skip)
 all_goals first|exact q|omega|(exfalso;simp[fidx] at h8;done)|(exfalso;simp at h24;done)|skip
 all_goals obtain⟨e1,e2,e3⟩:=e
 all_goals first|(exfalso;simp[isServer,srvOk,e1,e2,e3] at *;done)|skip)
abbrev Iz:Xct:=⟨[.u],[.sl .server],λ(x_:Ty68_)=>True,λ(x_:Ty68_) (y_:Ty53_)=>szL Ai y_.1<=100000/\0<y_.1.length/\okF y_.1⟩
abbrev Dj (c:Unit):LInv:=⟨[⟨.s,3,true,.sl .server⟩,⟨.s,12,true,.el .int⟩,⟨.s,10,true,.sl .str⟩],λ_ (x_:Ty145_)=>0<=x_.2.1/\x_.2.1<=3/\szL Ai x_.1<=30000*x_.2.1.toNat/\x_.2.2.1.length=3/\x_.2.2.1.all (λs=>decide (s.size<=30))=true/\okF x_.1,λ(x_:Ty145_)=>3-x_.2.1.toNat⟩
abbrev Dl (c:Unit):LInv:=⟨[⟨.s,3,true,.sl .server⟩,⟨.s,18,true,.el .int⟩,⟨.s,16,true,.sl .str⟩,⟨.s,10,true,.sl .str⟩],λ(z_ x_:Ty146_)=>0<=x_.2.1/\x_.2.1<=3/\szL Ai x_.1<=szL Ai z_.1+4000*x_.2.1.toNat/\x_.2.2.1.length=3/\x_.2.2.1.all (λs=>decide (s.size<=30))=true/\x_.2.2.2.1=z_.2.2.2.1/\okF x_.1,λ(x_:Ty146_)=>3-x_.2.1.toNat⟩
def Alh:=AmB.X Iz<|Xct.p (KP [0,2,3,5,7,8,10,11,12,16,17,18] [13,19,27,30,45,57]) (λ⟨c,_⟩=>λ|3=>some (Dj c)|6=>some (Dl c)|_=>none) AmB.2 func186 (by
 rintro⟨(c:PUnit),_⟩ hp;refine ho (let q8_:=(⟨#[97,112,112]⟩:ByteArray);let q6_:=(⟨#[104,111,109,101]⟩:ByteArray);let q1_:=Value.int IntKind.i64 (3:Int);lpx (Dj c) ([],((0:Int),([q6_,(⟨#[99,100,110]⟩:ByteArray),(⟨#[101,118,105,108]⟩:ByteArray)],()))) λ(y1:Ty145_) bk1=>let q7_:=Value.int IntKind.i64 y1.2.1;let q4_:=(⟨y1.2.2.1.getD y1.2.1.toNat default,(⟨#[108,111,103,111]⟩:ByteArray)⟩:Sb_);let q3_:=Value.string (y1.2.2.1.getD y1.2.1.toNat default);.br (decide (y1.2.1<3)) (.ix y1.2.1 y1.2.2.1.length<|lpx (Dl c) (y1.1,((0:Int),([q8_,(⟨#[108,105,98]⟩:ByteArray),(⟨#[117,116,105,108]⟩:ByteArray)],(y1.2.2.1,())))) λ(y5:Ty146_) bk5=>let q5_:=(⟨y1.2.2.1.getD y1.2.1.toNat default,y5.2.2.1.getD y5.2.1.toNat default⟩:Sb_);let q2_:Out:=.re q7_<|.re q1_<|.re q3_<|.re q1_<|.bk (bk5 (y5.1,(w1 y5.2.1,(y5.2.2.1,(y5.2.2.2.1,())))));let q0_:Out:=.dr JD ((),(6:Int),()) λ(y20:Ty70_)=>.br (!y20.1) (.dr C5 ((),(2:Int),()) λ(y23:Ty7_)=>.dr CT (y5.1,q5_,y23.1,()) λ(y25:Ty144_)=>.re q7_<|.re q1_<|.re q3_<|.re q1_<|.bk (bk5 (y25.1,(w1 y5.2.1,(y5.2.2.1,(y5.2.2.2.1,())))))) q2_;.br (decide (y5.2.1<3)) (.ix y5.2.1 y5.2.2.1.length<|.br (!(y5.2.2.1.getD y5.2.1.toNat default).toList==q8_.toList) (.dr JD ((),(2:Int),()) λ(y10:Ty70_)=>.br (y10.1) (.dr JD ((),(6:Int),()) λ(y12:Ty70_)=>.br (!y12.1) (.dr C5 ((),(5:Int),()) λ(y15:Ty7_)=>.dr CT (y5.1,q5_,y15.1,()) λ(y17:Ty144_)=>.re q7_<|.re q1_<|.re q3_<|.re q1_<|.bk (bk5 (y17.1,(w1 y5.2.1,(y5.2.2.1,(y5.2.2.2.1,())))))) q2_) q0_) q0_) (.dr JD ((),(4:Int),()) λ(y36:Ty70_)=>.br (!y36.1) (.dr C5 ((),(3:Int),()) λ(y39:Ty7_)=>.dr CT (y5.1,(⟨y1.2.2.1.getD y1.2.1.toNat default,(⟨#[115,116,121,108,101]⟩:ByteArray)⟩:Sb_),y39.1,()) λ(y41:Ty144_)=>.dr JD ((),(4:Int),()) λ(y42:Ty70_)=>.br (!y42.1) (.dr C5 ((),(4:Int),()) λ(y45:Ty7_)=>.dr CT (y41.1,q4_,y45.1,()) λ(y47:Ty144_)=>.re q1_<|.bk (bk1 (y47.1,(w1 y1.2.1,(y5.2.2.2.1,()))))) (.re q1_<|.bk (bk1 (y41.1,(w1 y1.2.1,(y5.2.2.2.1,())))))) (.dr JD ((),(4:Int),()) λ(y50:Ty70_)=>.br (!y50.1) (.dr C5 ((),(4:Int),()) λ(y53:Ty7_)=>.dr CT (y5.1,q4_,y53.1,()) λ(y55:Ty144_)=>.re q1_<|.bk (bk1 (y55.1,(w1 y1.2.1,(y5.2.2.2.1,()))))) (.re q1_<|.bk (bk1 (y5.1,(w1 y1.2.1,(y5.2.2.2.1,())))))))) (.dr C5 ((),(1:Int),()) λ(y59:Ty7_)=>.dr CT (y1.1,(⟨q6_,(⟨#[105,110,100,101,120]⟩:ByteArray)⟩:Sb_),y59.1,()) λ(y61:Ty144_)=>.dr C5 ((),(1:Int),()) λ(y63:Ty7_)=>.dr CT (y61.1,(⟨q6_,(⟨#[110,101,120,116]⟩:ByteArray)⟩:Sb_),y63.1,()) λ(y65:Ty144_)=>.lx Iz (y65.1,()))) ?_;refine Au ?_ λ(y1:Ty145_) i1=>Aa (λh2=>Er ?_ λo3 o4=>Au ?_ λ(y5:Ty146_) i5=>Aa (λh6=>Er ?_ λo7 o8=>Aa (λh9=>CV trivial λ(y10:Ty70_) i10=>Aa (λh11=>CV trivial λ(y12:Ty70_) i12=>Aa (λh13=>F6 ?_ λo14 (y15:Ty7_) i15=>F6 ?_ λo16 (y17:Ty144_) i17=>An<|An<|An<|An<|A8 ?_) (λh13=>An<|An<|An<|An<|A8 ?_)) (λh11=>CV trivial λ(y20:Ty70_) i20=>Aa (λh21=>F6 ?_ λo22 (y23:Ty7_) i23=>F6 ?_ λo24 (y25:Ty144_) i25=>An<|An<|An<|An<|A8 ?_) (λh21=>An<|An<|An<|An<|A8 ?_))) (λh9=>CV trivial λ(y28:Ty70_) i28=>Aa (λh29=>F6 ?_ λo30 (y31:Ty7_) i31=>F6 ?_ λo32 (y33:Ty144_) i33=>An<|An<|An<|An<|A8 ?_) (λh29=>An<|An<|An<|An<|A8 ?_))) (λh6=>CV trivial λ(y36:Ty70_) i36=>Aa (λh37=>F6 ?_ λo38 (y39:Ty7_) i39=>F6 ?_ λo40 (y41:Ty144_) i41=>CV trivial λ(y42:Ty70_) i42=>Aa (λh43=>F6 ?_ λo44 (y45:Ty7_) i45=>F6 ?_ λo46 (y47:Ty144_) i47=>An<|A8 ?_) (λh43=>An<|A8 ?_)) (λh37=>CV trivial λ(y50:Ty70_) i50=>Aa (λh51=>F6 ?_ λo52 (y53:Ty7_) i53=>F6 ?_ λo54 (y55:Ty144_) i55=>An<|A8 ?_) (λh51=>An<|A8 ?_)))) (λh2=>F6 ?_ λo58 (y59:Ty7_) i59=>F6 ?_ λo60 (y61:Ty144_) i61=>F6 ?_ λo62 (y63:Ty7_) i63=>F6 ?_ λo64 (y65:Ty144_) i65=>lxY ?_)
 all_goals try simp only[std,Nat.reduceAdd] at *
 all_goals
  have hr:∀ (l:List ByteArray) (i:Nat),(l.all λs=>decide (s.size<=30))=true->i<l.length->(l.getD i default).size<=30:=λl i h hi=>by have:=Qc0.1 h _ (AN hi);simpa using this
  have s1:(⟨#[115,116,121,108,101]⟩:ByteArray).size=5:=rfl;have s2:(⟨#[108,111,103,111]⟩:ByteArray).size=4:=rfl;have s3:(⟨#[104,111,109,101]⟩:ByteArray).size=4:=rfl;have s4:(⟨#[105,110,100,101,120]⟩:ByteArray).size=5:=rfl;have s5:(⟨#[110,101,120,116]⟩:ByteArray).size=4:=rfl
 all_goals try (obtain⟨a1,a2,a3,a4,a5,a6⟩:=i1)
 all_goals try (obtain⟨b1,b2,b3,b4,b5,b6,b7⟩:=i5)
 all_goals
  have f0:okF []:=λv hv=>nomatch hv
  try have f17:=i17.2.2.2 b7
  try have f25:=i25.2.2.2 b7
  try have f33:=i33.2.2.2 b7
  try have f41:=i41.2.2.2 b7
  try have f55:=i55.2.2.2 b7
  try have f47:=i47.2.2.2 f41
  try have f65:=i65.2.2.2 (i61.2.2.2 a6)
 all_goals first|omega|exact⟨o_,o_,by simp[szL],by decide,f0⟩|exact⟨o_,o_,o_,by decide,a6⟩|exact⟨o_,o_⟩|skip
 all_goals
  try have c1:=hr y1.2.2.1 y1.2.1.toNat a5 o_
  try have c2:=hr y5.2.2.1 y5.2.1.toNat b5 o_
  try rw[wrapId' o_ o_]
  try rw[b6]
  try simp only[szAddr,Ad] at *
 all_goals first|omega|exact⟨o_,o_,o_⟩|exact⟨⟨o_,o_,o_,b4,b5,rfl,‹_›⟩,o_⟩|exact⟨⟨o_,o_,o_,b4,b5,trivial,‹_›⟩,o_⟩|exact⟨⟨o_,o_,o_,b4,b5,b6,‹_›⟩,o_⟩|exact⟨⟨o_,o_,o_,a4,a5,‹_›⟩,o_⟩|exact⟨o_,Qf0 (i61.2.2.1 ⟨by decide,by decide,i59.1⟩) i65.2.1,f65⟩|skip)
def okN (n:Ss_):Prop:=szL Ai n.servers<=120000/\szCache n.cache<=110000/\szL Gd n.log<=300*n.log.length/\n.log.length<=400
def Z8 {n:Ss_} (h:okN n):szNet n<=350000:=by
 obtain⟨h1,h2,h3,h4⟩:=h;simp only[szNet];omega
def YS {n:Ss_} (h:okN n) {t:ByteArray} {a:Sb_} (g:Bool) (ht:t.size<=150) (ha:szAddr a<=60):okN (fetchNow n t a g).1:=by
 obtain⟨h1,h2,h3,h4⟩:=h;have hk:∀ (m:Ss_) (x:Sc_),okN m->okN (keepAnswer m t a x):=λm x hm=>by
  unfold keepAnswer;split
  ·exact⟨hm.1,Lf _ _ _ _ _ hm.2.1 o_,hm.2.2.1,hm.2.2.2⟩
  ·exact hm
 have hl:okN (logSent n t a g):=by
  unfold logSent;split
  ·refine⟨h1,h2,?_,?_⟩
   ·show szL Gd (n.log++[(⟨t,a,g⟩:Sx_)])<=300*(n.log++[(⟨t,a,g⟩:Sx_)]).length;rw[En,Qa1,Qa7,Qb1];simp only[Gd];omega
   ·show(n.log++[(⟨t,a,g⟩:Sx_)]).length<=400;rw[Qa1,Qa7,Qb1];omega
  ·exact⟨h1,h2,h3,h4⟩
 unfold fetchNow;split
 ·exact⟨h1,h2,h3,h4⟩
 ·split
  ·exact⟨h1,h2,h3,h4⟩
  ·dsimp only;split
   ·exact hl
   ·exact hk _ _ hl
def Aey {l:List Sk_} (h:l.length<=3) (a:Sb_) (x:Sc_) (g:Bool):(openConn l a x g).1.length<=3:=by
 unfold openConn;split
 ·exact h
 ·rw[Qa1,Qa7,Qb1];omega
def Ahe {l:Sd_} (h:l.conns.length<=3):(requestNext l).1.conns.length<=3:=by
 unfold requestNext;split
 ·exact h
 ·split
  ·exact h
  ·split
   ·exact h
   ·exact Aey h ..
def AeF {l:Sd_} (h:l.conns.length<=3):∀ m,(nextGuess l m).1.conns.length<=3
 | []=>h
 | a::m=>by
  rw[nextGuess];split
  ·exact AeF h m
  ·exact Aey h ..
def AfP {l:Sd_} (h:l.conns.length<=3):(guessNext l).1.conns.length<=3:=by
 unfold guessNext;split
 ·exact h
 ·exact AeF h _
def AiC {l:Sd_} (h:l.conns.length<=3):(arrivePart l).1.conns.length<=3:=by
 unfold arrivePart;split
 ·exact h
 ·exact h
def AiE {l:Sd_} (h:l.conns.length<=3) (k:Int):(finish1 l k).conns.length<=3:=by
 have:=QD l.conns k;unfold finish1 finishC;dsimp only;split
 ·split<;>(dsimp only;omega)
 ·split<;>(dsimp only;omega)
def AeK:∀ (n:Nat) {l:Sd_},l.conns.length<=3->(xfer n l).conns.length<=3
 | 0,l,h=>h
 | n+1,l,h=>by
  rw[xfer];split
  ·exact h
  ·exact AeK n (AiE h _)
def AaC {l:Sd_} (h:l.conns.length<=3) (b:Int):(transfer l b).1.conns.length<=3:=by
 unfold transfer;split
 ·exact h
 ·exact AeK _ (by unfold moved;dsimp only;rw[Cq];exact h)
def okX (G:Nat) (l:Sd_):Prop:=okW G l/\l.conns.length<=3
def wX {G:Nat} {l m:Sd_} (h:okX (G+1) l) (h1:okL G m) (h2:wS m<=wS l+5100000) (h3:m.conns.length<=3):okX G m:=⟨⟨h1,by have:=h.1.2;omega⟩,h3⟩
def Ahf {G:Nat} {l:Sd_} (h:okX (G+1) l):okX G (arrivePart l).1:=wX h (AdI h.1.1) (Aar (n:=0) h.1.1) (AiC h.2)
def AgZ {G:Nat} {l:Sd_} (h:okX (G+1) l):okX G (requestNext l).1:=wX h (YH h.1.1) (Aar (n:=1) h.1.1) (Ahe h.2)
def Ag9 {G:Nat} {l:Sd_} (h:okX (G+1) l):okX G (guessNext l).1:=wX h (Agn h.1.1) (Aar (n:=2) h.1.1) (AfP h.2)
def Ag8 {G:Nat} {l:Sd_} (h:okX (G+1) l) (b:Int):okX G (transfer l b).1:=wX h (XB (K7 h.1.1) b) (Qd1 (KZ l b) (Qc6 _ _)) (AaC h.2 b)
def AhX {G H:Nat} {l:Sd_} (h:okX H l) (hle:G<=H):okX G l:=⟨AeC h.1 hle,h.2⟩
def Ahu {G:Nat} {l:Sd_} (h:okX G l):okAct l:=AeQ h.1.1
def AfS {n:Ss_} {a:Sb_} (cs:List Int) (h:okN n) (ha:szAddr a<=1000):okX 1200 (startLoad n a cs).1:=⟨Aga cs (by have:=Z8 h;omega) o_,by unfold startLoad;split<;>exact Nat.zero_le _⟩
abbrev Tv:Xct:=⟨[.u],[.sl .server],λ(x_:Ty68_)=>True,λ(x_:Ty68_) (y_:Ty53_)=>szL Ai y_.1<=120000⟩
def AiQ:=Alh.X Tv<|Xct.o (KP [0,2,3,7] [8,17]) Alh.2 func303 (by
 rintro⟨(c:PUnit),_⟩ hp;refine ho (.dr Iz ((),()) λ(y1:Ty53_)=>.dr Cv ((),(12:Int),()) λ(y2:Ty3_)=>.br (y2.1==0) (.dr Ni ((),[(⟨#[104,111,109,101]⟩:ByteArray),(⟨#[]⟩:ByteArray),(⟨#[109,111,114,101]⟩:ByteArray)],()) λ(y5:Ty48_)=>.ob (Ij (y1.1.length+[(⟨y5.1,[]⟩:Sh_)].length) 40)<|.lx Tv (y1.1++[(⟨y5.1,[]⟩:Sh_)],())) (.br (y2.1==1) (.ob ((0:Int)<=(0:Int)/\(0:Int)<(y1.1.length:Int))<|.ob (0<y1.1.length)<|.dr Ni ((),[(⟨#[97,112,112]⟩:ByteArray),(⟨#[]⟩:ByteArray),(⟨#[122,122,122]⟩:ByteArray)],()) λ(y11:Ty48_)=>.dr LN ((),()) λ(y12:Ty7_)=>.ap ((y1.1.getD 0 default).files.length+[(⟨y11.1,y12.1⟩:Su_)].length) 80<|.ob ((0:Int)<=(0:Int)/\(0:Int)<(y1.1.length:Int))<|.re (0)<|.lt (List Sh_) (y1.1.modify 0 λz=>(⟨z.host,(y1.1.getD 0 default).files++[(⟨y11.1,y12.1⟩:Su_)]⟩:Sh_)) λz2=>.lx Tv (z2,())) (.lx Tv (y1.1,())))) ?_;refine CV trivial λ(y1:Ty53_) i1=>CV trivial λ(y2:Ty3_) i2=>Aa (λh3=>F6 ?_ λo4 (y5:Ty48_) i5=>Ac ?_ λ_=>lxY ?_) (λh3=>Aa (λh7=>Ac ?_ λ_=>Ac ?_ λ_=>F6 ?_ λo10 (y11:Ty48_) i11=>CV trivial λ(y12:Ty7_) i12=>Ek ?_ λ_=>Ac ?_ λ_=>An<|Ae1 λz2 ez2=>(lxY ?_)) (λh7=>lxY ?_))
 all_goals try subst_vars
 all_goals try simp only[std,Nat.reduceAdd] at *
 all_goals first|omega|(refine⟨?_,?_,?_⟩<;>decide)|skip
 all_goals
  have hl:=Ab Ai y1.1;have hf:=Ou y1.1 0
 all_goals first|omega|(rw[ZK];omega)|(refine Qd1 (UP _ _ _ _) ?_;simp only[Ad];omega)|skip)
abbrev Rx:Xct:=⟨[.u],[.el .cache],λ(x_:Ty68_)=>True,λ(x_:Ty68_) (y_:Ty55_)=>szCache y_.1<=80000⟩
abbrev EA (c:Unit):LInv:=⟨[⟨.b,3,true,.el .cache⟩,⟨.s,4,true,.el .int⟩,⟨.b,2,true,.el .cache⟩],λ(z_ x_:Ty147_)=>(0<=x_.2.1/\x_.2.1<=5/\szCache x_.1<=80000)/\x_.2.2.1=z_.2.2.1,λ(x_:Ty147_)=>x_.2.1.toNat⟩
def AjV:=AiQ.X Rx<|Xct.p (KP [0,2,3,4,5,6] [11]) (λ⟨c,_⟩=>lv [(3,EA c)]) AiQ.2 func369 (by
 rintro⟨(c:PUnit),_⟩ hp;refine ho (.dr Cv ((),(6:Int),()) λ(y1:Ty3_)=>lpx (EA c) (default,(y1.1,(default,()))) λ(y2:Ty147_) bk2=>.br (decide (y2.2.1>0)) (.dr UN ((),()) λ(y4:Ty48_)=>.dr Ug ((),()) λ(y5:Ty4_)=>.dr Cv ((),(5:Int),()) λ(y6:Ty3_)=>.dr C5 ((),wr ((1:Int)+y6.1),()) λ(y8:Ty7_)=>.dr Cv ((),(9:Int),()) λ(y9:Ty3_)=>.cl Cb (y2.1,y4.1,y5.1,y8.1,y9.1,()) λz2=>.bk (bk2 (z2.1,(wr (y2.2.1-(1:Int)),(y2.2.2.1,()))))) (.lx Rx (y2.1,()))) ?_;refine CV trivial λ(y1:Ty3_) i1=>Au ?_ λ(y2:Ty147_) i2=>Aa (λh3=>CV trivial λ(y4:Ty48_) i4=>CV trivial λ(y5:Ty4_) i5=>CV trivial λ(y6:Ty3_) i6=>F6 ?_ λo7 (y8:Ty7_) i8=>CV trivial λ(y9:Ty3_) i9=>Ei ?_ λo10 z2 ez2=>(A8 ?_)) (λh3=>lxY ?_)
 all_goals try subst_vars
 all_goals
  try simp only[std,Nat.reduceAdd] at *
  try simp(disch:=omega) only[wrapId'] at *
 all_goals first|omega|exact⟨o_,o_,by decide⟩|exact⟨⟨o_,o_,Lf _ _ _ _ _ o_ o_⟩,o_⟩|exact⟨⟨⟨o_,o_,Lf _ _ _ _ _ o_ o_⟩,i2.2⟩,o_⟩|(simp only[szAddr,Ad];exact⟨o_,o_,o_,o_⟩)|skip)
abbrev TM:Xct:=⟨[.u],[.el .cache],λ(x_:Ty68_)=>True,λ(x_:Ty68_) (y_:Ty55_)=>szCache y_.1<=110000⟩
abbrev F7 (c:Unit):LInv:=⟨[⟨.b,3,true,.el .cache⟩,⟨.s,4,true,.el .int⟩,⟨.b,2,true,.el .cache⟩],λ(z_ x_:Ty147_)=>(0<=x_.2.1/\x_.2.1<=101/\szCache x_.1<=80000+20*x_.2.1.toNat)/\x_.2.2.1=z_.2.2.1,λ(x_:Ty147_)=>101-x_.2.1.toNat⟩
def Ai3:=AjV.X TM<|Xct.p (KP [0,2,3,4,8] [9,24,27]) (λ⟨c,_⟩=>lv [(7,F7 c)]) AjV.2 func304 (by
 rintro⟨(c:PUnit),_⟩ hp;refine ho (let q7_:=(20:Int)≠(0:Int);let q6_:=(⟨#[99,100,110]⟩:ByteArray);let q4_:=(⟨#[]⟩:ByteArray);let q1_:=(⟨#[104,111,109,101]⟩:ByteArray);let q0_:=(⟨(200:Int),(2:Int),q4_,(0:Int),false,q4_⟩:Sc_);.dr Rx ((),()) λ(y1:Ty55_)=>.dr Cv ((),(12:Int),()) λ(y2:Ty3_)=>.br (y2.1==0) (.dr Ni ((),[q1_,q4_],()) λ(y5:Ty48_)=>.dr XL ((),()) λ(y6:Ty4_)=>.dr LN ((),()) λ(y7:Ty7_)=>let q3_:=(⟨y5.1,y6.1,y7.1,(0:Int)⟩:Sp_);.ap (y1.1.bg.length+[q3_].length) 120<|.lx TM (⟨y1.1.bg++[q3_]⟩,())) (.br (y2.1==1) (lpx (F7 c) (y1.1,((0:Int),(default,()))) λ(y10:Ty147_) bk10=>let q5_:=wr ((97:Int)+y10.2.1.tmod (20:Int));let q2_:=wr ((97:Int)+wr (y10.2.1.tdiv (20:Int)));.br (decide (y10.2.1<101)) (.ob q7_<|.ob q7_<|.ob (True)<|.ap (y10.1.bg.length+[(⟨q1_,(⟨q6_,List.foldl (λr n=>r.push (UInt8.ofNat n.toNat)) ByteArray.empty [IntKind.u8.wrap q5_,IntKind.u8.wrap q2_]⟩:Sb_),q0_,(0:Int)⟩:Sp_)].length) 120<|.re (Value.int IntKind.i64 y2.1)<|.bk (bk10 ((⟨y10.1.bg++[(⟨q1_,(⟨q6_,List.foldl (λr n=>r.push (UInt8.ofNat n.toNat)) ByteArray.empty [IntKind.u8.wrap q5_,IntKind.u8.wrap q2_]⟩:Sb_),q0_,(0:Int)⟩:Sp_)]⟩:Sn_),(w1 y10.2.1,(y10.2.2.1,()))))) (.lx TM (y10.1,()))) (.lx TM (y1.1,())))) ?_;refine CV trivial λ(y1:Ty55_) i1=>CV trivial λ(y2:Ty3_) i2=>Aa (λh3=>F6 ?_ λo4 (y5:Ty48_) i5=>CV trivial λ(y6:Ty4_) i6=>CV trivial λ(y7:Ty7_) i7=>Ek ?_ λ_=>lxY ?_) (λh3=>Aa (λh9=>Au ?_ λ(y10:Ty147_) i10=>Aa (λh11=>Ac ?_ λ_=>Ac ?_ λ_=>Ac trivial λ_=>Ek ?_ λ_=>An<|A8 ?_) (λh11=>lxY ?_)) (λh9=>lxY ?_))
 all_goals try simp only[std,Nat.reduceAdd] at *
 all_goals first|omega|(refine⟨?_,?_,?_⟩<;>decide)|skip
 all_goals
  have hl:∀ x:Sn_,x.bg.length<=szCache x:=λx=>Ab A0 x.bg
  have h1:=hl y1.1;try have h2:=hl y10.1
  have hc:∀ (x:Sn_) (e:Sp_),szCache { bg:=x.bg++[e]}=szCache x+A0 e+1:=λx e=>En _ _ _
  try rw[hc]
  try simp only[A0,szAddr,Ad] at *
 all_goals
  have h5:∀ a b:Int,(List.foldl (λr n=>r.push (UInt8.ofNat n.toNat)) ByteArray.empty [a,b]).size=2:=λ_ _=>rfl
  try rw[wrapId' (n:=y10.2.1+1) o_ o_]
  try rw[h5]
  try simp only[show ByteArray.size ⟨#[104,111,109,101]⟩=4 from rfl,show ByteArray.size ⟨#[99,100,110]⟩=3 from rfl,show ByteArray.size ⟨#[]⟩=0 from rfl]
 all_goals first|omega|exact⟨⟨⟨o_,o_,o_⟩,i10.2⟩,o_⟩|skip)
abbrev AbP:Xct:=⟨[.u],[.el .net],λ(x_:Ty68_)=>True,λ(x_:Ty68_) (y_:Ty56_)=>okN y_.1⟩
def Aio {l:List Sh_} (h:szL Ai l<=120000) (now:Int):okN ⟨l,default,[],now⟩:=⟨h,(by decide:szCache default<=110000),(by decide:szL Gd []<=300*0),(by decide:0<=400)⟩
def Ahq {n:Ss_} (h:okN n):szNet n<=9000000000/\szCache n.cache<=90000000/\szL Ai n.servers<=10000000:=by
 have:=Z8 h;obtain⟨h1,h2,h3,h4⟩:=h;exact⟨o_,o_,o_⟩
abbrev Hb (c:Unit):LInv:=⟨[⟨.b,3,true,.el .net⟩,⟨.s,4,true,.el .int⟩,⟨.b,2,true,.el .net⟩],λ(z_ x_:Ty148_)=>(0<=x_.2.1/\x_.2.1<=3/\okN x_.1)/\x_.2.2.1=z_.2.2.1,λ(x_:Ty148_)=>x_.2.1.toNat⟩
def Akg:=Ai3.X AbP<|Xct.p (KP [0,2,3,4,5] [14]) (λ⟨c,_⟩=>lv [(3,Hb c)]) Ai3.2 func302 (by
 rintro⟨(c:PUnit),_⟩ hp;refine ho (.dr Iz ((),()) λ(y1:Ty53_)=>.dr Cv ((),(20:Int),()) λ(y2:Ty3_)=>.dr Cv ((),(4:Int),()) λ(y3:Ty3_)=>lpx (Hb c) ((⟨y1.1,default,[],y2.1⟩:Ss_),(y3.1,(default,()))) λ(y4:Ty148_) bk4=>.br (decide (y4.2.1>0)) (.dr Ni ((),[(⟨#[104,111,109,101]⟩:ByteArray),(⟨#[99,100,110]⟩:ByteArray)],()) λ(y7:Ty48_)=>.dr Ug ((),()) λ(y8:Ty4_)=>.dr JD ((),(3:Int),()) λ(y9:Ty70_)=>.cl Bv (y4.1,y7.1,y8.1,y9.1,()) λz2=>.bk (bk4 (z2.1,(wr (y4.2.1-(1:Int)),(y4.2.2.1,()))))) (.lx AbP (y4.1,()))) ?_;refine CV trivial λ(y1:Ty53_) i1=>CV trivial λ(y2:Ty3_) i2=>CV trivial λ(y3:Ty3_) i3=>Au ?_ λ(y4:Ty148_) i4=>Aa (λh5=>F6 ?_ λo6 (y7:Ty48_) i7=>CV trivial λ(y8:Ty4_) i8=>CV trivial λ(y9:Ty70_) i9=>Ei ?_ λo10 z2 ez2=>(A8 ?_)) (λh5=>lxY ?_)
 all_goals try subst_vars
 all_goals
  try simp only[std,Nat.reduceAdd] at *
  try simp(disch:=omega) only[wrapId'] at *
 all_goals first|omega|exact⟨o_,o_,Aio o_ _⟩|(refine⟨?_,?_,?_⟩<;>decide)|skip
 all_goals
  have b3:=i4.1.2.2;try have b4:=Ahq b3
  try simp only[szAddr]
 all_goals first|exact b3|exact⟨b4.1,b4.2.1,b4.2.2,o_,o_⟩|exact⟨⟨⟨o_,o_,YS b3 _ i7 (by simp only[szAddr];omega)⟩,i4.2⟩,o_⟩|skip)
def AfZ {n:Ss_} (h:okN n) (hl:n.log.length<400) {a:Sb_} (ha:szAddr a<=60):okN { n with log:=n.log++[⟨⟨#[104,111,109,101]⟩,a,false⟩]}:=by
 obtain⟨h1,h2,h3,h4⟩:=h;refine⟨h1,h2,?_,?_⟩
 ·dsimp only;rw[En,Qa1,Qa7,Qb1];simp only[Gd,show ByteArray.size ⟨#[104,111,109,101]⟩=4 from rfl];omega
 ·dsimp only;rw[Qa1,Qa7,Qb1];omega
abbrev GW (c:Unit):LInv:=⟨[⟨.b,3,true,.el .net⟩,⟨.b,2,true,.el .net⟩],λ(z_ x_:Ty37_)=>(okN x_.1)/\x_.2.1=z_.2.1,λ(x_:Ty37_)=>400-x_.1.log.length⟩
def AjP:=Akg.X AbP<|Xct.p (KP [0,2,3,7] [8,13,18,24,29]) (λ⟨c,_⟩=>lv [(10,GW c)]) Akg.2 func196 (by
 rintro⟨(c:PUnit),_⟩ hp;refine ho (.dr AbP ((),()) λ(y1:Ty56_)=>.dr Cv ((),(14:Int),()) λ(y2:Ty3_)=>.br (y2.1==0) (.dr Tv ((),()) λ(y4:Ty53_)=>.lx AbP ({y1.1 with servers:=y4.1},())) (.br (y2.1==1) (.dr TM ((),()) λ(y6:Ty55_)=>.lx AbP ({y1.1 with cache:=y6.1},())) (.br (y2.1==2) (.dr Pm ((),[(-1:Int),(999999998000:Int),(999999998001:Int)],()) λ(y9:Ty3_)=>.lx AbP ({y1.1 with now:=y9.1},())) (.br (y2.1==3) (lpx (GW c) (y1.1,(default,())) λ(y11:Ty37_) bk11=>.br (decide ((y11.1.log.length:Int)<400)) (.dr Ug ((),()) λ(y13:Ty4_)=>let q0_:=(⟨(⟨#[104,111,109,101]⟩:ByteArray),y13.1,false⟩:Sx_);.ap (y11.1.log.length+[q0_].length) 56<|.re (Value.int IntKind.i64 y2.1)<|.bk (bk11 (({y11.1 with log:=y11.1.log++[q0_]}:Ss_),(y11.2.1,())))) (.lx AbP (y11.1,()))) (.lx AbP (y1.1,())))))) ?_;refine CV trivial λ(y1:Ty56_) i1=>CV trivial λ(y2:Ty3_) i2=>Aa (λh3=>CV trivial λ(y4:Ty53_) i4=>lxY ?_) (λh3=>Aa (λh5=>CV trivial λ(y6:Ty55_) i6=>lxY ?_) (λh5=>Aa (λh7=>F6 ?_ λo8 (y9:Ty3_) i9=>lxY ?_) (λh7=>Aa (λh10=>Au ?_ λ(y11:Ty37_) i11=>Aa (λh12=>CV trivial λ(y13:Ty4_) i13=>Ek ?_ λ_=>An<|A8 ?_) (λh12=>lxY ?_)) (λh10=>lxY ?_))))
 all_goals try simp only[std,Nat.reduceAdd] at *
 all_goals first|exact⟨i1.1.trans o_,i1.2⟩|exact i1|exact⟨i4,i1.2⟩|exact⟨i1.1,i6,i1.2.2⟩|exact⟨by decide,by decide⟩|exact⟨i1.1,i1.2.1,i1.2.2.1,i1.2.2.2⟩|skip
 all_goals have hlen:=i11.1.2.2.2
 all_goals first|omega|exact i11.1|exact⟨⟨AfZ i11.1 o_ (by simp only[szAddr];omega),i11.2⟩,by rw[Qa1,Qa7,Qb1];omega⟩|skip)
def smN (n:Ss_):Prop:=okF n.servers/\∀ e,e∈n.cache.bg->e.bd.body.size<=400
def Xq {l:List Sh_} (h:okF l) (a:Sb_):(answerTo l a).body.size<=400:=by
 unfold answerTo;split
 ·exact Nat.zero_le _
 ·split
  ·exact Nat.zero_le _
  ·rename_i h1 h2;have h3:=DN (λs:Sh_=>decide (s.host=a.host)) l 0 o_;have h4:=DN (λf:Su_=>decide (f.path=a.path)) (l.getD (fidx (λs:Sh_=>decide (s.host=a.host)) l 0).toNat default).files 0 o_;exact h _ (AN o_) _ (AN o_)
def Ab0 {n:Ss_} (h:smN n) (t:ByteArray) (a:Sb_):((lookUp n.cache t a n.now).getD notFound).body.size<=400:=by
 unfold lookUp;cases q:n.cache.bg.find? (freshEntry t a n.now) with
 | none=>exact Nat.zero_le _
 | some e=>exact h.2 e (List.mem_of_find?_eq_some q)
def keep_sm {n:Ss_} (h:smN n) (t:ByteArray) (a:Sb_) (x:Sc_):smN (keepAnswer n t a x):=by
 unfold keepAnswer;split
 ·refine⟨h.1,λe he=>?_⟩;have he:e∈(storeEntry n.cache t a x n.now).bg:=he;unfold storeEntry at he;split at he
  ·rename_i q;have q:=q.2.2.2;unfold isCache at q;rw[Qa2] at q;exact Wq (JX q.1 e he)
  ·exact h.2 e he
 ·exact h
def Aen {n:Ss_} (h:smN n) (t:ByteArray) (a:Sb_) (g:Bool):smN (logSent n t a g):=by
 unfold logSent;split<;>exact h
def Adu {n:Ss_} (h:smN n) (t:ByteArray) (a:Sb_) (g:Bool):smN (fetchNow n t a g).1/\(fetchNow n t a g).2.body.size<=400:=by
 unfold fetchNow;split
 ·exact⟨h,Nat.zero_le _⟩
 ·split
  ·exact⟨h,Ab0 h t a⟩
  ·refine⟨?_,Xq h.1 a⟩;dsimp only;split
   ·exact Aen h t a g
   ·exact keep_sm (Aen h t a g) _ _ _
abbrev Zm:Xct:=⟨[.u],[.el .net],λ(x_:Ty68_)=>True,λ(x_:Ty68_) (y_:Ty56_)=>okN y_.1/\smN y_.1⟩
abbrev Ga (c:Unit):LInv:=⟨[⟨.b,3,true,.el .net⟩,⟨.s,15,true,.el .int⟩,⟨.s,13,true,.sl .str⟩,⟨.b,2,true,.el .net⟩],λ(z_ x_:Ty149_)=>(0<=x_.2.1/\x_.2.1<=2/\szL Ai x_.1.servers<=100000+5000*x_.2.1.toNat/\x_.1.cache=default/\okF x_.1.servers/\x_.1.log.length=0/\x_.2.2.1.length=2/\x_.2.2.1.all (λs=>decide (s.size<=30))=true)/\x_.2.2.2.1=z_.2.2.2.1,λ(x_:Ty149_)=>2-x_.2.1.toNat⟩
abbrev Gg (c:Unit):LInv:=⟨[⟨.b,3,true,.el .net⟩,⟨.s,7,true,.el .int⟩,⟨.b,2,true,.el .net⟩],λ(z_ x_:Ty148_)=>(0<=x_.2.1/\x_.2.1<=2/\okN x_.1/\smN x_.1)/\x_.2.2.1=z_.2.2.1,λ(x_:Ty148_)=>x_.2.1.toNat⟩
def Amp:=AjP.X Zm<|Xct.p (KP [0,2,3,5,6,7,13,14,15] [16,42]) (λ⟨c,_⟩=>λ|3=>some (Ga c)|9=>some (Gg c)|_=>none) AjP.2 func92 (by
 rintro⟨(c:PUnit),_⟩ hp;refine ho (.dr Iz ((),()) λ(y1:Ty53_)=>.dr Cv ((),(20:Int),()) λ(y2:Ty3_)=>lpx (Ga c) ((⟨y1.1,default,[],y2.1⟩:Ss_),((0:Int),([(⟨#[105,110,100,101,120]⟩:ByteArray),(⟨#[110,101,120,116]⟩:ByteArray)],(default,())))) λ(y3:Ty149_) bk3=>.br (decide (y3.2.1<2)) (.ix y3.2.1 y3.2.2.1.length<|.dr Q4 ((),()) λ(y7:Ty48_)=>.dr I2 ((),()) λ(y8:Ty28_)=>.cl AQ (y8.1,()) λz2=>.dr Pm ((),[(0:Int),(5:Int)],()) λ(y11:Ty3_)=>.dr CT (y3.1.servers,(⟨(⟨#[104,111,109,101]⟩:ByteArray),y3.2.2.1.getD y3.2.1.toNat default⟩:Sb_),(⟨(200:Int),(1:Int),y7.1,y11.1,false,z2.1⟩:Sc_),()) λ(y13:Ty144_)=>.re (Value.int IntKind.i64 (2:Int))<|.bk (bk3 ((⟨y13.1,y3.1.cache,y3.1.log,y3.1.now⟩:Ss_),(w1 y3.2.1,(y3.2.2.1,(y3.2.2.2.1,())))))) (.dr Cv ((),(3:Int),()) λ(y15:Ty3_)=>lpx (Gg c) (y3.1,(y15.1,(y3.2.2.2.1,()))) λ(y16:Ty148_) bk16=>.br (decide (y16.2.1>0)) (.dr Ug ((),()) λ(y18:Ty4_)=>.cl Bv (y16.1,(⟨#[104,111,109,101]⟩:ByteArray),y18.1,false,()) λz3=>.re (Value.int IntKind.i64 y3.2.1)<|.re (Value.int IntKind.i64 (2:Int))<|.bk (bk16 (z3.1,(wr (y16.2.1-(1:Int)),(y16.2.2.1,()))))) (.lx Zm (y16.1,())))) ?_;refine CV trivial λ(y1:Ty53_) i1=>CV trivial λ(y2:Ty3_) i2=>Au ?_ λ(y3:Ty149_) i3=>Aa (λh4=>Er ?_ λo5 o6=>CV trivial λ(y7:Ty48_) i7=>CV trivial λ(y8:Ty28_) i8=>Ei ?_ λo9 z2 ez2=>(F6 ?_ λo10 (y11:Ty3_) i11=>F6 ?_ λo12 (y13:Ty144_) i13=>An<|A8 ?_)) (λh4=>CV trivial λ(y15:Ty3_) i15=>Au ?_ λ(y16:Ty148_) i16=>Aa (λh17=>CV trivial λ(y18:Ty4_) i18=>Ei ?_ λo19 z3 ez3=>(An<|An<|A8 ?_)) (λh17=>lxY ?_))
 all_goals try subst_vars
 all_goals
  try have q1:=KH i8
  try have q2:=Gn y8.1
  try simp only[std,Nat.reduceAdd] at *
 all_goals
  have e0:szCache (default:Sn_)=0:=by decide
  have hr:∀ (l:List ByteArray) (i:Nat),(l.all λs=>decide (s.size<=30))=true->i<l.length->(l.getD i default).size<=30:=λl i h hi=>by have:=Qc0.1 h _ (AN hi);simpa using this
 all_goals try (obtain⟨⟨b1,b2,b3,b4,b9,b5,b6,b7⟩,b8⟩:=i3)
 all_goals
  try have f13:=i13.2.2.2 b9
  try have c1:=hr y3.2.2.1 y3.2.1.toNat b7 o_
 all_goals first|omega|exact⟨o_,o_,o_,rfl,i1.2.2,rfl,rfl,by decide⟩|exact⟨o_,o_⟩|exact⟨o_,o_,o_,i1.2.2,by decide⟩|skip
 all_goals
  try simp only[szAddr,Ad,show ByteArray.size ⟨#[104,111,109,101]⟩=4 from rfl] at *
  try rw[wrapId' o_ o_]
 all_goals first|omega|exact⟨o_,o_,o_⟩|exact⟨⟨⟨o_,o_,o_,b4,f13,b5,b6,b7⟩,b8⟩,o_⟩|skip
 all_goals first|exact⟨o_,o_,⟨o_,by rw[b4];decide,by rw[List.length_eq_zero_iff.1 b5];decide,o_⟩,b9,by rw[b4];exact λe h=>nomatch h⟩|skip
 all_goals
  have k3:=i16.1.2.2.1;have k5:=i16.1.2.2.2;have k4:=Ahq k3
 all_goals first|exact⟨k3,k5⟩|exact⟨k4.1,k4.2.1,k4.2.2,o_,o_⟩|exact⟨⟨⟨o_,o_,YS k3 _ (by decide) (by simp only[szAddr];omega),(Adu k5 _ _ _).1⟩,i16.2⟩,o_⟩|skip)
abbrev RR:Xct:=⟨[.u],[.el .addr],λ(x_:Ty68_)=>True,λ(x_:Ty68_) (y_:Ty4_)=>szAddr y_.1<=200⟩
def Alc:=Amp.X RR<|Xct.o [0,2] Amp.2 func93 (by
 rintro⟨(c:PUnit),_⟩ hp;refine ho (.dr Ni ((),[(⟨#[105,110,100,101,120]⟩:ByteArray),(⟨#[105,110,100,101,120]⟩:ByteArray),(⟨#[110,101,120,116]⟩:ByteArray)],()) λ(y2:Ty48_)=>.lx RR (⟨(⟨#[104,111,109,101]⟩:ByteArray),y2.1⟩,())) ?_;refine F6 ?_ λo1 (y2:Ty48_) i2=>lxY ?_
 all_goals try simp only[std,Nat.reduceAdd] at *
 all_goals first|(refine⟨?_,?_,?_⟩<;>decide)|(simp only[szAddr,show ByteArray.size ⟨#[104,111,109,101]⟩=4 from rfl];omega)|skip)
abbrev Tr:Xct:=⟨[.u],[.el .net,.el .addr],λ(x_:Ty68_)=>True,λ(x_:Ty68_) (y_:Ty150_)=>okN y_.1/\szAddr y_.2.1<=300⟩
def Akt:=Alc.X Tr<|Xct.o (KP [0,2,3,4,5,11] [12,16]) Alc.2 func108 (by
 rintro⟨(c:PUnit),_⟩ hp;refine ho (.dr Zm ((),()) λ(y1:Ty56_)=>.dr RR ((),()) λ(y2:Ty4_)=>.dr Cv ((),(14:Int),()) λ(y3:Ty3_)=>.br (y3.1==0) (.dr AbP ((),()) λ(y5:Ty56_)=>.du (.lx Tr (y5.1,y2.1,()))) (.br (y3.1==1) (.dr XL ((),()) λ(y9:Ty4_)=>.du (.lx Tr (y1.1,y9.1,()))) (.du (.lx Tr (y1.1,y2.1,()))))) ?_;refine CV trivial λ(y1:Ty56_) i1=>CV trivial λ(y2:Ty4_) i2=>CV trivial λ(y3:Ty3_) i3=>Aa (λh4=>CV trivial λ(y5:Ty56_) i5=>AhR (lxY ?_)) (λh4=>Aa (λh8=>CV trivial λ(y9:Ty4_) i9=>AhR (lxY ?_)) (λh8=>AhR (lxY ?_)))
 all_goals try simp only[std,Nat.reduceAdd] at *
 all_goals first|exact⟨i1.1,o_⟩|exact⟨‹_›,o_⟩|(simp only[szAddr] at *;exact⟨‹_›,o_⟩)|(simp only[szAddr] at *;exact⟨i1.1,o_⟩)|skip)
abbrev RS:Xct:=⟨[.u],[.sl .int],λ(x_:Ty68_)=>True,λ(x_:Ty68_) (y_:Ty40_)=>y_.1.length<=4⟩
abbrev FG (c:Unit):LInv:=⟨[⟨.s,3,true,.sl .int⟩,⟨.s,4,true,.el .int⟩],λ_ (x_:Ty46_)=>0<=x_.2.1/\x_.2.1<=4/\x_.1.length+x_.2.1<=4,λ(x_:Ty46_)=>x_.2.1.toNat⟩
def Aj3:=Akt.X RS<|Xct.p (KP [0,2,3,4] [9]) (λ⟨c,_⟩=>lv [(3,FG c)]) Akt.2 func88 (by
 rintro⟨(c:PUnit),_⟩ hp;refine ho (.dr Cv ((),(5:Int),()) λ(y1:Ty3_)=>lpx (FG c) ([],(y1.1,())) λ(y2:Ty46_) bk2=>.br (decide (y2.2.1>0)) (.dr Cv ((),(120:Int),()) λ(y4:Ty3_)=>.ap (y2.1.length+[wr (y4.1-(1:Int))].length) 8<|.bk (bk2 (y2.1++[wr (y4.1-(1:Int))],(wr (y2.2.1-(1:Int)),())))) (.lx RS (y2.1,()))) ?_;refine CV trivial λ(y1:Ty3_) i1=>Au ?_ λ(y2:Ty46_) i2=>Aa (λh3=>CV trivial λ(y4:Ty3_) i4=>Ek ?_ λ_=>A8 ?_) (λh3=>lxY ?_)
 all_goals
  try simp only[std,Nat.reduceAdd,Qa1,Qa7,Qb1] at *
  try simp(disch:=omega) only[wrapId'] at *
 all_goals first|omega|exact⟨o_,o_,o_⟩|exact⟨⟨o_,o_,o_⟩,o_⟩|skip)
abbrev Pc:Xct:=⟨[.u],[.el .loader],λ(x_:Ty68_)=>True,λ(x_:Ty68_) (y_:Ty90_)=>okX 1150 y_.1⟩
abbrev DP (c:Unit):LInv:=⟨[⟨.b,5,true,.el .loader⟩,⟨.s,7,true,.el .int⟩,⟨.b,2,true,.el .loader⟩],λ(z_ x_:Ty151_)=>(0<=x_.2.1/\x_.2.1<=9/\okX (1150+x_.2.1.toNat) x_.1)/\x_.2.2.1=z_.2.2.1,λ(x_:Ty151_)=>x_.2.1.toNat⟩
def Amo:=Aj3.X Pc<|Xct.p (KP [0,2,3,4,5,7,28] [24,37,44,51]) (λ⟨c,_⟩=>lv [(4,DP c)]) Aj3.2 func35 (by
 rintro⟨(c:PUnit),_⟩ hp;refine ho (.dr Tr ((),()) λ(y1:Ty150_)=>.dr RS ((),()) λ(y2:Ty40_)=>.cl PY (y1.1,y1.2.1,y2.1,()) λz2=>.dr Cv ((),(10:Int),()) λ(y4:Ty3_)=>lpx (DP c) (z2.1,(y4.1,(default,()))) λ(y5:Ty151_) bk5=>.br (decide (y5.2.1>0)) (.dr Cv ((),(4:Int),()) λ(y7:Ty3_)=>.br (y7.1==0) (.cl CC (y5.1,()) λz3=>.bk (bk5 (z3.1,(wr (y5.2.1-(1:Int)),(y5.2.2.1,()))))) (.br (y7.1==1) (.cl B8 (y5.1,()) λz4=>.bk (bk5 (z4.1,(wr (y5.2.1-(1:Int)),(y5.2.2.1,()))))) (.br (y7.1==2) (.cl CJ (y5.1,()) λz5=>.bk (bk5 (z5.1,(wr (y5.2.1-(1:Int)),(y5.2.2.1,()))))) (.dr Cv ((),(60:Int),()) λ(y17:Ty3_)=>.cl D7 (y5.1,wr ((1:Int)+y17.1),()) λz6=>.bk (bk5 (z6.1,(wr (y5.2.1-(1:Int)),(y5.2.2.1,())))))))) (.lx Pc (y5.1,()))) ?_;refine CV trivial λ(y1:Ty150_) i1=>CV trivial λ(y2:Ty40_) i2=>Ei ?_ λo3 z2 ez2=>(CV trivial λ(y4:Ty3_) i4=>Au ?_ λ(y5:Ty151_) i5=>Aa (λh6=>CV trivial λ(y7:Ty3_) i7=>Aa (λh8=>Ei ?_ λo9 z3 ez3=>(A8 ?_)) (λh8=>Aa (λh11=>Ei ?_ λo12 z4 ez4=>(A8 ?_)) (λh11=>Aa (λh14=>Ei ?_ λo15 z5 ez5=>(A8 ?_)) (λh14=>CV trivial λ(y17:Ty3_) i17=>Ei ?_ λo18 z6 ez6=>(A8 ?_))))) (λh6=>lxY ?_))
 all_goals try subst_vars
 all_goals
  try simp only[std,Nat.reduceAdd] at *
  try have a1:=Z8 i1.1
  try simp(disch:=omega) only[wrapId'] at *
 all_goals first|omega|exact⟨o_,o_,o_⟩|exact⟨o_,o_,AhX (AfS _ i1.1 o_) o_⟩|skip
 all_goals
  have d0:=i5.1.2.2;have d1:=Ahu d0
 all_goals first|exact d1.1|exact d1.2.1|exact d1.2.2.1|exact d1.2.2.2|exact AhX d0 o_|skip
 all_goals have d2:=AhX (G:=1150+(y5.2.1-1).toNat+1) d0 o_
 all_goals first|exact⟨⟨⟨o_,o_,Ahf d2⟩,i5.2⟩,o_⟩|exact⟨⟨⟨o_,o_,AgZ d2⟩,i5.2⟩,o_⟩|exact⟨⟨⟨o_,o_,Ag9 d2⟩,i5.2⟩,o_⟩|exact⟨⟨⟨o_,o_,Ag8 d2 _⟩,i5.2⟩,o_⟩|skip)
abbrev Q2:Xct:=⟨[.v (.sl .u8)],[.el .loader,.el .int],λ(x_:Ty40_)=>x_.1.length<=1000000000000000000/\(∀ j,j<x_.1.length->0<=x_.1.getD j default/\x_.1.getD j default<=255),λ(x_:Ty40_) (y_:Ty139_)=>okX 1150 y_.1⟩
def AjA:=Amo.X Q2<|Xct.o [0,2,3,4,5] Amo.2 func6 (by
 rintro⟨(b:List Int),_⟩ hp;refine ho (.ob (∀ (j:Nat),j<List.length (b,()).1->0<=List.getD b j default/\List.getD b j default<=255)<|.ob (List.length b<=1000000000000000000)<|.dr Pc ((),()) λ(y3:Ty90_)=>.dr Pm ((),[(1:Int),(20:Int),(100:Int),(1000:Int),(0:Int),(1001:Int)],()) λ(y5:Ty3_)=>.lx Q2 (y3.1,y5.1,())) ?_;refine Ac ?_ λ_=>Ac ?_ λ_=>CV trivial λ(y3:Ty90_) i3=>F6 ?_ λo4 (y5:Ty3_) i5=>lxY ?_
 all_goals try simp only[std,Nat.reduceAdd] at *
 all_goals first|exact hp.2|exact hp.1|exact i3|exact⟨by decide,by decide⟩|skip)
abbrev Lw:Xct:=⟨[.v (.sl .u8)],[.el .str,.sl .int],λ(x_:Ty40_)=>x_.1.length<=1000000000000000000/\(∀ j,j<x_.1.length->0<=x_.1.getD j default/\x_.1.getD j default<=255),λ(x_:Ty40_) (y_:Ty43_)=>y_.1.size<=2000/\y_.2.1.length<=20⟩
def Aja:=AjA.X Lw<|Xct.o (KP [0,2,3,4,5,6] [14]) AjA.2 func16 (by
 rintro⟨(b:List Int),_⟩ hp;refine ho (.ob (∀ (j:Nat),j<List.length (b,()).1->0<=List.getD b j default/\List.getD b j default<=255)<|.ob (List.length b<=1000000000000000000)<|.dr Q4 ((),()) λ(y3:Ty48_)=>.dr RS ((),()) λ(y4:Ty40_)=>.dr JD ((),(6:Int),()) λ(y5:Ty70_)=>.br (y5.1) (.ap (y4.1.length+9) 8<|.lx Lw (y3.1,y4.1++[(1:Int),(2:Int),(3:Int),(4:Int),(5:Int),(6:Int),(7:Int),(8:Int),(9:Int)],())) (.lx Lw (y3.1,y4.1,()))) ?_;refine Ac ?_ λ_=>Ac ?_ λ_=>CV trivial λ(y3:Ty48_) i3=>CV trivial λ(y4:Ty40_) i4=>CV trivial λ(y5:Ty70_) i5=>Aa (λh6=>Ek ?_ λ_=>lxY ?_) (λh6=>lxY ?_)
 all_goals try simp only[std,Nat.reduceAdd] at *
 all_goals first|exact hp.2|exact hp.1|omega|exact⟨o_,o_⟩|exact⟨o_,by rw[Qa1];show _+9<=20;omega⟩|skip)
def catB:List ByteArray->ByteArray
 | []=>⟨#[]⟩
 | x::l=>x++catB l
def Ani (m:ByteArray):(⟨#[]⟩:ByteArray)++m=m:=ByteArray.empty_append
def Alm (m:ByteArray):m++(⟨#[]⟩:ByteArray)=m:=ByteArray.append_empty
def RD:∀ (l m:List ByteArray),catB (l++m)=catB l++catB m
 | [],m=>(Ani _).symm
 | x::l,m=>by rw[Qe5,catB,catB,RD l m,ByteArray.append_assoc]
def Ahs (s:ByteArray) (a i:Nat) (h:a<=i) (h2:i<=s.size):s.extract a i++s.extract i s.size=s.extract a s.size:=by
 rw[ByteArray.extract_append_extract];congr 1<;>omega
def Aaf (s:ByteArray) (cs:List Int):∀ (f:Nat) (i a:Int),0<=a->a<=i->i+f<=s.size\/f=0->catB (cutGo s cs f i a)=s.extract a.toNat s.size/\1<=(cutGo s cs f i a).length
 | 0,i,a,h0,h1,h2=>by
  rw[cutGo];exact⟨Alm _,by simp⟩
 | f+1,i,a,h0,h1,h2=>by
  rw[cutGo];split
  ·have:=Aaf s cs f (i+1) i o_ o_ o_;rw[catB,this.1,Ahs s _ _ o_ o_,Qa7];exact⟨rfl,o_⟩
  ·exact Aaf s cs f (i+1) a h0 o_ o_
def AaW (s:ByteArray) (cs:List Int):catB (cutText s cs)=s/\1<=(cutText s cs).length/\(cutText s cs).length<=8:=by
 have h:=Aaf s cs (s.size-1) 1 0 o_ o_ o_;refine⟨?_,h.2,OS s cs⟩;unfold cutText;rw[h.1];exact ByteArray.extract_zero_size
def SY {l:List ByteArray} {i:Nat} (h:i<l.length):catB (l.take (i+1))=catB (l.take i)++l.getD i default:=by
 rw[take_succ h,RD,catB,catB,Alm]
def Agv (l:List ByteArray) (i:Nat):(catB (l.take i)).size+(catB (l.drop i)).size=(catB l).size:=by
 have h:=Qg5 ByteArray.size (RD (l.take i) (l.drop i));rw[Qd9,Qa6] at h;exact h.symm
def YW (s:ByteArray) (cs:List Int) (i:Nat) (h:i<(cutText s cs).length):(catB ((cutText s cs).take i)).size+((cutText s cs).getD i default).size<=s.size:=by
 have h1:=Agv (cutText s cs) (i+1);rw[SY h,(AaW s cs).1,Qa6] at h1;omega
def Afs {l:Sd_} (h:okW 0 l):H0 l<=1099511627776:=by
 have q:=AgN h;obtain⟨hl,hw⟩:=h;obtain⟨_,⟨k1,k2,k3⟩,_⟩:=hl;unfold wS at hw;unfold H0;omega
def AhY {l:Sd_} (h:okX 1000 l):H0 l<=1099511627776:=Afs (AeC h.1 o_)
def lBytesA:Fct:=Ahx [.sl .u8]
abbrev DX (b:(List Int)):LInv:=⟨[⟨.s,24,true,.el .str⟩,⟨.s,25,true,.el .int⟩,⟨.s,23,true,.sl .str⟩,⟨.b,7,true,.el .loader⟩,⟨.b,11,true,.el .loader⟩],λ(z_ x_:Ty152_)=>((x_.2.2.1=z_.2.2.1/\0<=x_.2.1/\x_.2.1<=x_.2.2.1.length/\x_.1=catB (x_.2.2.1.take x_.2.1.toNat))/\x_.2.2.2.1=z_.2.2.2.1)/\x_.2.2.2.2.1=z_.2.2.2.2.1,λ(x_:Ty152_)=>x_.2.2.1.length-x_.2.1.toNat⟩
theorem k3_368:lBytesA.ok Tryz.prog 3:=Fct.p (KP [0,2,3,4,5,6,7,8,9,10,11,12,13,14,15,16,17,18,19,20,21,22,23,24,25] [27,116,128]) (λ⟨b,_⟩=>lv [(18,DX b)]) Aja.2 func3 (by
 rintro⟨(b:List Int),_⟩ hp;refine ho (let q0_:Out:=.leaf (mkR lBytesA.rs (false,())) [] [];.cl AiH (b,()) λz2=>.br (z2.1) (.leaf (mkR lBytesA.rs (true,())) [] []) (.ob (Q2.pre (b,()))<|.lp Ty139_ (True) (Q2.is (b,())) λy3=>.cl CC (y3.1,()) λz3=>.cl B8 (y3.1,()) λz4=>.cl CJ (y3.1,()) λz5=>.cl D7 (y3.1,y3.2.1,()) λz6=>.cl CC (y3.1,()) λz7=>.cl B8 (y3.1,()) λz8=>.cl CJ (y3.1,()) λz9=>.cl D7 (y3.1,y3.2.1,()) λz10=>.br (!z3.2.1==z7.2.1) q0_ (.br (!z4.2.1==z8.2.1) q0_ (.br (!z5.2.1==z9.2.1) q0_ (.br (!z6.2.1==z10.2.1) q0_ (.cl D1 (z3.1,z7.1,()) λz11=>.br (!z11.1) q0_ (.cl D1 (z4.1,z8.1,()) λz12=>.br (!z12.1) q0_ (.cl D1 (z5.1,z9.1,()) λz13=>.br (!z13.1) q0_ (.cl D1 (z6.1,z10.1,()) λz14=>.br (!z14.1) q0_ (.ob (Lw.pre (b,()))<|.lp Ty43_ (True) (Lw.is (b,())) λy25=>.cl J0 (y25.1,y25.2.1,()) λz15=>lpx (DX b) ((⟨#[]⟩:ByteArray),((0:Int),(z15.1,(z4.1,(z6.1,()))))) λ(y27:Ty152_) bk27=>let q1_:=(y27.2.2.1.length:Int);.br (decide (y27.2.1<q1_)) (.ix y27.2.1 y27.2.2.1.length<|.ob (sameSize y27.1 (y27.2.2.1.getD y27.2.1.toNat default))<|.re (b)<|.re (Value.int IntKind.i64 y3.2.1)<|.re (Value.bool z3.2.1)<|.re (Value.bool z4.2.1)<|.re (Value.bool z5.2.1)<|.re (Value.bool z6.2.1)<|.re (Value.bool z7.2.1)<|.re (Value.bool z8.2.1)<|.re (Value.bool z9.2.1)<|.re (Value.bool z10.2.1)<|.re (Value.string y25.1)<|.bk (bk27 (y27.1++y27.2.2.1.getD y27.2.1.toNat default,(w1 y27.2.1,(y27.2.2.1,(y27.2.2.2.1,(y27.2.2.2.2.1,()))))))) (.br (y27.1.toList==y25.1.toList) (.br (decide (q1_>=1)) (.br (decide (q1_<=8)) (.br (decide ((y27.2.2.2.2.1.conns.length:Int)<=3)) (.leaf (mkR lBytesA.rs (decide ((y27.2.2.2.1.conns.length:Int)<=3),())) [] []) q0_) q0_) q0_) q0_))))))))))) ?_;refine Af trivial λ_=>(Aa (λh1=>Fct.leafY ?_) (λh1=>Ac ?_ λ_=>LC trivial λy3 i3=>Af ?_ λ_=>(Af ?_ λ_=>(Af ?_ λ_=>(Af ?_ λ_=>(Af ?_ λ_=>(Af ?_ λ_=>(Af ?_ λ_=>(Af ?_ λ_=>(Aa (λh12=>Fct.leafY ?_) (λh12=>Aa (λh13=>Fct.leafY ?_) (λh13=>Aa (λh14=>Fct.leafY ?_) (λh14=>Aa (λh15=>Fct.leafY ?_) (λh15=>Af ?_ λ_=>(Aa (λh17=>Fct.leafY ?_) (λh17=>Af ?_ λ_=>(Aa (λh19=>Fct.leafY ?_) (λh19=>Af ?_ λ_=>(Aa (λh21=>Fct.leafY ?_) (λh21=>Af ?_ λ_=>(Aa (λh23=>Fct.leafY ?_) (λh23=>Ac ?_ λ_=>LC trivial λy25 i25=>Af ?_ λ_=>(Au ?_ λ(y27:Ty152_) i27=>Aa (λh28=>Er ?_ λo29 o30=>Ac ?_ λ_=>An<|An<|An<|An<|An<|An<|An<|An<|An<|An<|An<|A8 ?_) (λh28=>Aa (λh33=>Aa (λh34=>Aa (λh35=>Aa (λh36=>Fct.leafY ?_) (λh36=>Fct.leafY ?_)) (λh35=>Fct.leafY ?_)) (λh34=>Fct.leafY ?_)) (λh33=>Fct.leafY ?_)))))))))))))))))))))))))
 all_goals try simp only[lBytesA,std,Nat.reduceAdd,szF,toF,eqF,mkF,heF] at *
 all_goals have hb:=Agm hp.1
 all_goals first|rfl|exact⟨o_,hb⟩|skip
 all_goals
  try have d0:=AhX (G:=1001) i3 o_
  try have d1:=Ahu d0
 all_goals first|exact d1.1|exact d1.2.1|exact d1.2.2.1|exact d1.2.2.2|skip
 all_goals
  have z1:=AhY (Ahf d0);have z2:=AhY (AgZ d0);have z3:=AhY (Ag9 d0);have z4:=AhY (Ag8 d0 y3.2.1)
 all_goals first|exact⟨z1,z1⟩|exact⟨z2,z2⟩|exact⟨z3,z3⟩|exact⟨z4,z4⟩|omega|exact absurd trivial ‹_›|skip
 all_goals have k1:=AaW y25.1 y25.2.1
 all_goals first|exact⟨o_,o_,rfl⟩|skip
 all_goals obtain⟨⟨⟨q1,q2,q3,q4⟩,q5⟩,q6⟩:=i27
 all_goals simp only[q1,q4] at *
 all_goals first|(have k2:=YW y25.1 y25.2.1 y27.2.1.toNat o_;unfold sameSize;omega)|skip
 all_goals try rw[wrapId' o_ o_]
 all_goals first|exact⟨⟨⟨⟨trivial,o_,o_,by rw[show(y27.2.1+1).toNat=y27.2.1.toNat+1 from o_,SY o_]⟩,q5⟩,q6⟩,o_⟩|skip
 all_goals
  have r1:=Ahe d0.2;have r2:=AaC d0.2 y3.2.1
 all_goals rw[<-q5] at r1
 all_goals rw[<-q6] at r2
 all_goals have r3:catB ((cutText y25.1 y25.2.1).take y27.2.1.toNat)=y25.1:=by rw[Qb9 o_];exact k1.1
 all_goals first|(exfalso;omega)|exact absurd r3 ‹_›|(rw[Qf4 o_];rfl)|skip)
def Ant:=Aja.a lBytesA k3_368
section
open Go.ChangeShapes Go.WideShapes Go.ChangeAt Go.RowKit
theorem rfB:(Tryz.f3.params.toList.all λt=>Tryz.prog.readableRec t&&decide (t<Tryz.prog.types.size))=true:=by kernel_rfl
theorem rfC:Pi Tryz.prog tyOf Tryz.f3.params.toList [.sl .u8]=true:=by kernel_rfl
theorem rfD:AmI Tryz.prog tyOf [3,4,5,9,27,30,32,35,37,42,47,51,80,82,88,127,156,173,178,181,216,234,236,250,253,326,352,370]=true:=by kernel_rfl
theorem rowFacts:Afi Tryz.prog Tryz.f3 tyOf [3,4,5,9,27,30,32,35,37,42,47,51,80,82,88,127,156,173,178,181,216,234,236,250,253,326,352,370] [.sl .u8]=true:=by unfold Afi;rw[rfA,rfB,rfC,rfD];rfl
end
end Go.Proofs.YthpiiodbmkjmjaaGreatDoor.fnActions
