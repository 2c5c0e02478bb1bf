/- Contracts, part 8. -/
import Derived.Test.YtmeicddakaciiaaGreatDoorVPStepsToFinish4
import Derived.Test.YtmeicddakaciiaaGreatDoorVPStepsToFinish7
namespace Go.Proofs.YtmeicddakaciiaaGreatDoor.fnExactStepsToFinish
open Go.Proofs.YtmeicddakaciiaaGreatDoor
open Go.D Go.Proofs.Tryz
set_option maxRecDepth 100000
set_option maxHeartbeats 2000000
set_option linter.unusedVariables false
set_option linter.unusedSimpArgs false
def Alq:=AjN.G Fz<|GS.of (S:=Fz) (L:=λ⟨l,k,_⟩=>λ|5=>some (Cb l k)|_=>none) (kp:=(KP [1,2,4,5,6,7] [24,34,36,59])) AjN.2 func211 k_ k_ (by
 rintro⟨(l:Sc_),(k:Int),_⟩ hp;refine ho (.ob (inB k l.conns.length)<|.ob (k.toNat<l.conns.length)<|.cl Cp (l.conns,k,()) λz2=>.cl Bu (l.page,()) λz3=>lpx (Cb l k) ((0:Int),(({l with conns:=z2.1}:Sc_),(default,(l.conns.getD k.toNat default,(z3.1,()))))) λ(y5:Int×Sc_×Sc_×Si_×List Sf_×PUnit) bk5=>let q0_:=y5.2.2.2.2.1.getD y5.1.toNat default;.br (decide (y5.1<(y5.2.2.2.2.1.length:Int))) (.ob (inB y5.1 y5.2.2.2.2.1.length)<|.ob (y5.1.toNat<y5.2.2.2.2.1.length)<|.br (q0_.to.host==y5.2.2.2.1.to.host&&(q0_.to.path==y5.2.2.2.1.to.path&&true)) (.br (y5.2.2.2.1.guess) (.cl fKeepAnswer (y5.2.1.net,y5.2.1.page.addr.host,y5.2.2.2.1.to,y5.2.2.2.1.bd,()) λz4=>.cl A2 (y5.2.1.page,y5.2.2.2.1.to,y5.2.2.2.1.bd,()) λz5=>GS.out Fz (({y5.2.1 with net:=z4.1,page:=z5.1},()),(()))) (.cl A2 (y5.2.1.page,y5.2.2.2.1.to,y5.2.2.2.1.bd,()) λz6=>GS.out Fz (({y5.2.1 with page:=z6.1},()),(())))) (.ob (Value.int IntKind.i64 k=Value.int IntKind.i64 k)<|.ob (bk5 (w1 y5.1,(y5.2.1,(y5.2.2.1,(y5.2.2.2.1,(y5.2.2.2.2.1,()))))))<|.ok)) (.br (y5.2.2.2.1.guess) (.cl CU (y5.2.1.guesses,y5.2.2.2.1.to,y5.2.2.2.1.bd,()) λz7=>GS.out Fz (({y5.2.1 with guesses:=z7.1},()),(()))) (GS.out Fz ((y5.2.1,()),(()))))) ?_;repeat' first|(guard_target =~ Out.holds _ _;first|refine An (li:=Cb l k) ?_ λ(y5:Int×Sc_×Sc_×Si_×List Sf_×PUnit) i5=>?_|refine GS.leafY ?_|refine Ab (λ_=>?_) λ_=>?_|refine Af ?_ λ_=>?_|refine Aa ?_ λ_=>?_)|exact trivial
 all_goals obtain⟨⟨⟨q1,q2⟩,⟨q3,q4⟩,q5,q6,q7⟩,q8,q9⟩:=(show okFin l/\0<=k/\k<l.conns.length from hp)
 all_goals
  try simp only[Hd] at *
  try simp only[Cb,CU,Cp,Fz,fKeepAnswer,Bu,A2,std,Nat.reduceAdd] at *
 all_goals first|trivial|omega|exact⟨o_,o_,rfl⟩|skip
 all_goals
  have hc:=q4 _ (A7 (show k.toNat<l.conns.length from o_));have hc1:(l.conns.getD k.toNat default).bd.body.size+(l.conns.getD k.toNat default).bd.bj.size<=1048576:=hc.1;have hok:=Do (Ej q1);have hn:=Fq l.page;have hh:l.page.addr.host.size<=4000000:=by have:=hok.2.1;simp only[szAddr] at this;omega
 all_goals (obtain⟨e1,e2,e3,a1,a2,a3⟩:=i5;simp only[e1,e2,e3,Di,Qa8,Qa9] at *)
 all_goals first|trivial|omega|exact⟨o_,o_,o_,o_,o_⟩|exact⟨q1,o_,o_,o_⟩|skip
 all_goals first|(have e:=AcK (λr:Sf_=>decide (r.to=(l.conns.getD k.toNat default).to)) (l:=nextNeeds l.page) (i:=y5.1.toNat) o_)|(have e:=Abo (λr:Sf_=>decide (r.to=(l.conns.getD k.toNat default).to)) (l:=nextNeeds l.page) (i:=y5.1.toNat) o_)
 all_goals rw[a3] at e
 all_goals first|(rw[show decide (((nextNeeds l.page).getD y5.1.toNat default).to=(l.conns.getD k.toNat default).to)=false from Qg6 ‹_›,Bool.false_or] at e;rw[Ag o_,show(y5.1+1).toNat=y5.1.toNat+1 from o_];exact⟨⟨trivial,trivial,trivial,o_,o_,e.symm⟩,o_⟩)|skip
 all_goals first|(rw[show decide (((nextNeeds l.page).getD y5.1.toNat default).to=(l.conns.getD k.toNat default).to)=true from Qf2 ‹_›,Bool.true_or] at e)|skip
 all_goals first|(have hg:(l.conns.getD k.toNat default).guess=true:=by assumption)|(have hg:(l.conns.getD k.toNat default).guess=false:=by assumption)|skip
 all_goals (unfold finish1 finishC;dsimp only;simp only[e,hg,Qd4,Qf0,Qe7]))
theorem Hk {s:ByteArray} (h:isName s=true):s.size<=8:=by
 unfold isName at h;simp only[Qa1,Qa8] at h;exact h.2.2
theorem VT (p:Sj_):(formatPolicy p).size<=300:=by
 unfold formatPolicy;split
 ·rename_i h;simp only[Qa1] at h;obtain⟨a1,a2,a3,a4,a5,a6,a7⟩:=FQ h.1 h.2;have b1:=GI p.bp ⟨#[115,99,114,105,112,116]⟩ a1;have b2:=GI p.styles ⟨#[115,116,121,108,101]⟩ a3;have b3:=GI p.images ⟨#[105,109,103]⟩ a5;have c1:(⟨#[115,99,114,105,112,116]⟩:ByteArray).size=6:=rfl;have c2:(⟨#[115,116,121,108,101]⟩:ByteArray).size=5:=rfl;have c3:(⟨#[105,109,103]⟩:ByteArray).size=3:=rfl;have c4:(⟨#[59]⟩:ByteArray).size=1:=rfl;have c5:(⟨#[59,110,111,110,99,101,32]⟩:ByteArray).size=7:=rfl;split<;>(simp only[Qb2];omega)
 ·exact Nat.zero_le _
theorem Ph {x:Sd_} (h:isResponse x=true):Ae x<=700:=by
 unfold isResponse at h;simp only[Qa1,Qa8] at h;obtain⟨_,_,h1,_,h2⟩:=h;have h3:x.bj.size<=300:=by
  unfold parsePolicy at h2;split at h2
  ·rename_i e;rw[e];exact Nat.zero_le _
  ·split at h2
   ·rename_i e;rw[<-e.2];exact VT _
   ·cases h2
 simp only[Ae];omega
theorem S4 {all:List Sq_}:∀ {l:List Sq_} {k:Int},entOk all l k=true->szL AT l<=800*l.length
 | [],_,_=>Qa7 _
 | e::l,k,h=>by simp only[entOk,Qa1] at h;obtain⟨⟨⟨⟨⟨h1,h2,h3⟩,h4⟩,_⟩,_⟩,h5⟩:=h;have a1:=Hk h1;have a2:=Hk h2;have a3:=Hk h3;have a4:=Ph h4;have a5:=S4 h5;rw[Av,Qa6];simp only[AT,szAddr];omega
theorem T2 {c:So_} (h:isCache c=true):szCache c<=80000:=by
 unfold isCache at h;simp only[Qa1,Qa8] at h;have:=S4 h.1;simp only[szCache];omega
theorem Sv (c:So_) (t:ByteArray) (a:Sb_) (x:Sd_) (now:Int) {B:Nat} (h:szCache c<=B) (hB:80000<=B):szCache (storeEntry c t a x now)<=B:=by
 unfold storeEntry;split
 ·rename_i q;exact Qd8 (T2 q.2.2.2) hB
 ·exact h
def okNk (n:Su_):Prop:=szNet n<=szCache n.cache+9000000000/\szCache n.cache<=90000000
theorem keep_okNk {n:Su_} (h:okNk n) (t:ByteArray) (a:Sb_) (x:Sd_):okNk (keepAnswer n t a x):=by
 unfold keepAnswer;split
 ·have:=Sv n.cache t a x n.now h.2 o_;refine⟨?_,this⟩;have h1:=h.1;simp only[szNet] at *;omega
 ·exact h
def wB (x:Sd_):Nat:=min 400 x.body.size
def wCs (l:List Si_):Nat:=(l.map λc=>wB c.bd).sum
theorem XV (p:Sj_) (r:Sf_) (x:Sd_):(usable p r x).1.size<=wB x:=by
 have h1:=Je p r x;have h2:(usable p r x).1.size<=x.body.size:=by
  unfold usable;split
  ·exact Qa7 _
  ·exact Nat.zero_le _
 unfold wB;omega
theorem MH {p:Sa_} {Q M R:Nat} (h:okAll p Q M R) (a:Sb_) (x:Sd_):okAll (fillModule p a x) Q (M+600*wB x) (R+20*wB x):=by
 have mono:∀ {q:Sa_} {M' R':Nat},okAll q Q M' R'->M'<=M+600*wB x->R'<=R+20*wB x->okAll q Q (M+600*wB x) (R+20*wB x):=λh hM hR=>by obtain⟨h1,h2,h3,⟨h4,h5,h6,h7⟩,h8⟩:=h;exact⟨h1,h2,h3,⟨h4,o_,o_,h7⟩,h8⟩
 unfold fillModule;split
 ·exact mono h o_ o_
 ·rename_i hc;have h0:0<=findMod p.bh a:=o_
  have hd:(p.bh.getD (findMod p.bh a).toNat default).done=false:=by
   cases hq:(p.bh.getD (findMod p.bh a).toNat default).done with
   | false=>rfl
   | true=>exact absurd (.inr hq) hc
  obtain⟨i1,_⟩:=JL (x:=x) h0;have i2:(imports (fillM0 p a x) a).1.length<=wB x:=by
   obtain⟨_,h2⟩:=Ev (fillM0 p a x) a;obtain⟨f1,f2⟩:=Gy p a x h0;rw[f1,f2] at h2;rcases h2 with h2|⟨_,h2⟩
   ·rw[h2];exact Nat.zero_le _
   ·exact Qd8 h2 (XV ..)
  exact mono (QI _ _ M R (KQ h a x h0 hd) i1) o_ o_
theorem Jj {p:Sa_} {Q M R:Nat} (h:okAll p Q M R) (a:Sb_) (x:Sd_):okAll (takeAnswer p a x) (Q+740000) (M+600*wB x) (R+20*wB x):=by
 have:=KS h a x p.bf.length;rw[HW (Qa7 _)] at this;exact NA (MH this a x)
def okPot (l:Sc_):Prop:=∃ Q M R,okAll l.page Q M R/\Q+740000*l.conns.length<=899000000000/\M+600*wCs l.conns<=49000000000/\R+20*wCs l.conns<=19000000000
def okT (l:Sc_):Prop:=okPot l/\(okCs l.conns/\l.conns.length<=1048576/\l.guesses.length+l.conns.length<=4194304)/\okNk l.net
theorem QT {l:Sc_} (h:okT l):okFin l:=by
 obtain⟨⟨Q,M,R,h1,h2,h3,h4⟩,⟨h5,h6a,h6⟩,h7,h8⟩:=h;have hf:okFM l.page:=⟨Q,M,R,h1,o_,o_,o_⟩;have hp:=Do (Ej hf);exact⟨⟨hf,o_⟩,⟨o_,h5⟩,o_,o_,h8⟩
theorem KI {l:List Si_} {k:Int} (h0:0<=k) (h:k<l.length):closeConn l k=l.take k.toNat++l.drop (k.toNat+1):=by unfold closeConn;rw[Qa2 ⟨h0,h⟩]
theorem Hm {l:List Si_} {k:Int} (h0:0<=k) (h:k<l.length):(closeConn l k).length+1=l.length:=by
 rw[KI h0 h,Qa3,Qc2,Qe2];omega
theorem PF {l:List Si_} {k:Int} (h0:0<=k) (h:k<l.length):wCs (closeConn l k)+wB (l.getD k.toNat default).bd=wCs l:=by
 have e:l.take k.toNat++l.getD k.toNat default::l.drop (k.toNat+1)=l:=by rw[<-drop_cons (show k.toNat<l.length from o_),Qe4]
 have g:wCs (l.take k.toNat++l.getD k.toNat default::l.drop (k.toNat+1))=wCs l:=by rw[e]
 rw[KI h0 h];unfold wCs at *
 simp only[List.map_append,Qd2,List.sum_append,List.sum_cons] at *
 omega
theorem AaA {l:List Si_} {k:Int} (h0:0<=k) (h:k<l.length):szL CD (closeConn l k)+(CD (l.getD k.toNat default)+1)=szL CD l:=by
 have e:l.take k.toNat++l.getD k.toNat default::l.drop (k.toNat+1)=l:=by rw[<-drop_cons (show k.toNat<l.length from o_),Qe4]
 have g:szL CD (l.take k.toNat++l.getD k.toNat default::l.drop (k.toNat+1))=szL CD l:=by rw[e]
 rw[KI h0 h];rw[De,Av] at g;rw[De];omega
theorem Sb {l:List Si_} {k:Int} (h0:0<=k) (h:k<l.length) (ho:okCs l):okCs (closeConn l k):=by
 rw[KI h0 h];intro c hc;rcases Qb9.1 hc with q|q
 ·exact ho c (List.mem_of_mem_take q)
 ·exact ho c (List.mem_of_mem_drop q)
theorem Ss (l:List Sm_) (a:Sb_) (x:Sd_):(addGuess l a x).1.length<=l.length+1:=by
 unfold addGuess;split
 ·exact Nat.le_succ _
 ·simp only[Qa3,Qa6,Qc0];omega
theorem Afd (l:List Sm_) (a:Sb_) (x:Sd_):szL BP (addGuess l a x).1<=szL BP l+(szAddr a+Ae x+1):=by
 unfold addGuess;split
 ·simp only;omega
 ·simp only;rw[EP];simp only[BP];omega
theorem Pj (l:Sc_) (k:Int):(finish1 l k).conns=closeConn l.conns k:=by
 unfold finish1 finishC;split
 ·split<;>rfl
 ·split<;>rfl
theorem AbR {l:Sc_} {k:Int} (h:okT l) (h0:0<=k) (hk:k<l.conns.length):okT (finish1 l k):=by
 obtain⟨⟨Q,M,R,h1,h2,h3,h4⟩,⟨h5,h6a,h6⟩,h7⟩:=h;have c1:=Hm h0 hk;have c2:=PF h0 hk;have c3:=Sb h0 hk h5;have ha:=Jj h1 (l.conns.getD k.toNat default).to (l.conns.getD k.toNat default).bd;have hg:=Ss l.guesses (l.conns.getD k.toNat default).to (l.conns.getD k.toNat default).bd;unfold finish1 finishC;dsimp only;split
 ·split
  ·exact⟨⟨_,_,_,ha,by dsimp only;omega,by dsimp only;omega,by dsimp only;omega⟩,⟨c3,by dsimp only;omega,by dsimp only;omega⟩,keep_okNk h7 _ _ _⟩
  ·exact⟨⟨_,_,_,ha,by dsimp only;omega,by dsimp only;omega,by dsimp only;omega⟩,⟨c3,by dsimp only;omega,by dsimp only;omega⟩,h7⟩
 ·split
  ·exact⟨⟨_,_,_,h1,by dsimp only;omega,by dsimp only;omega,by dsimp only;omega⟩,⟨c3,by dsimp only;omega,by dsimp only;omega⟩,h7⟩
  ·exact⟨⟨_,_,_,h1,by dsimp only;omega,by dsimp only;omega,by dsimp only;omega⟩,⟨c3,by dsimp only;omega,by dsimp only;omega⟩,h7⟩
theorem D8:∀ (l:List Si_) (z:Int),0<=z->-1<=firstDone l z/\firstDone l z<z+l.length/\(firstDone l z<0\/z<=firstDone l z)
 | [],z,h=>by
  rw[firstDone,Qc0];omega
 | c::l,z,h=>by have:=D8 l (z+1) o_;rw[firstDone,Qa6];split<;>omega
def xfer:Nat->Sc_->Sc_
 | 0,l=>l
 | n+1,l=>if firstDone l.conns 0<0 then l else xfer n (finish1 l (firstDone l.conns 0))
theorem Yt {l:Sc_} (h:firstDone l.conns 0<0):∀ n,xfer n l=l
 | 0=>rfl
 | n+1=>by rw[xfer,Qa2 h]
theorem Adv {l:Sc_} {n:Nat} (h:0<=firstDone l.conns 0):xfer (n+1) l=xfer n (finish1 l (firstDone l.conns 0)):=by rw[xfer,Qa4 o_]
def moved (l:Sc_) (b:Int):Sc_:={ l with conns:=moveConns l.conns b }
def transfer (l:Sc_) (b:Int):Sc_×Bool:=if l.conns.length=0\/inRange b 1 1000=false then(l,false) else(xfer l.conns.length (moved l b),true)
theorem Acd (l:List Si_) (b:Int):wCs (moveConns l b)=wCs l:=by
 unfold moveConns;split
 ·unfold wCs;rw[Qg2];rfl
 ·rfl
theorem Afr (l:List Si_) (b:Int):szL CD (moveConns l b)=szL CD l:=by
 unfold moveConns;split
 ·unfold szL;rw[Qg2,Qf1];rfl
 ·rfl
theorem YF {l:List Si_} (b:Int) (h:okCs l):okCs (moveConns l b):=by
 unfold moveConns;split
 ·intro c hc;obtain⟨d,hd,rfl⟩:=Qg7.1 hc;exact h d hd
 ·exact h
theorem AbA {l:Sc_} (h:okT l) (b:Int):okT (moved l b):=by
 obtain⟨⟨Q,M,R,h1,h2,h3,h4⟩,⟨h5,h6a,h6⟩,h7⟩:=h;have e1:=Dn l.conns b;have e2:=Acd l.conns b;unfold moved;exact⟨⟨Q,M,R,h1,by dsimp only;omega,by dsimp only;omega,by dsimp only;omega⟩,⟨YF b h5,by dsimp only;omega,by dsimp only;omega⟩,h7⟩
def xInv (l0 l:Sc_) (n:Nat):Prop:=okT l/\l.conns.length<=n/\xfer n l=l0
theorem PB {l0 l:Sc_} {n:Nat} (h:xInv l0 l (n+1)) (h0:0<=firstDone l.conns 0):xInv l0 (finish1 l (firstDone l.conns 0)) n:=by
 obtain⟨h1,h2,h3⟩:=h;have hd:=D8 l.conns 0 o_;rw[Adv h0] at h3;have hl:=Hm h0 (show firstDone l.conns 0<l.conns.length from o_);exact⟨AbR h1 h0 o_,by rw[Pj];omega,h3⟩
theorem QE {l0 l:Sc_} {n:Nat} (h:xInv l0 l n) (h0:firstDone l.conns 0<0):l=l0:=by
 have:=h.2.2
 rwa [Yt h0] at this
def okTr (l:Sc_):Prop:=okT l/\l.parts.length<=1000000000
theorem I9 {l:Sc_} (h:okT l) (hp:l.parts.length<=1000000000):szNet l.net<=68719476736/\szPage l.page<=1099511627776/\l.parts.length<=1000000000/\l.conns.length<=1048576/\l.guesses.length<=4194304:=by
 have hf:=QT h;have hq:=Do (Ej hf.1.1);exact⟨by have:=hf.2.2.2.1;omega,o_,hp,hf.2.1.1,hf.2.2.1⟩
theorem Zz {l:Sc_} {b:Int} (h:l.conns.length=0\/inRange b 1 1000=false):transfer l b=(l,false):=by unfold transfer;rw[Qa2 h]
theorem Acg {l:Sc_} {b:Int} (h1:¬ l.conns.length=0) (h2:inRange b 1 1000=true):transfer l b=(xfer l.conns.length (moved l b),true):=by
 unfold transfer;rw[Qa4 (by rintro(q|q);exact h1 q;rw[h2] at q;cases q)]
theorem AcF {l:Sc_} (h:okT l) (b:Int):xInv (xfer l.conns.length (moved l b)) { net:=l.net,page:=l.page,parts:=l.parts,conns:=moveConns l.conns b,guesses:=l.guesses } l.conns.length:=⟨AbA h b,Nat.le_of_eq (Dn l.conns b),rfl⟩
theorem XO {l0 l:Sc_} (h:xInv l0 l l.conns.length) (h0:0<=firstDone l.conns 0):xInv l0 (finish1 l (firstDone l.conns 0)) (closeConn l.conns (firstDone l.conns 0)).length:=by
 have hd:=D8 l.conns 0 o_;have hl:=Hm h0 (show firstDone l.conns 0<l.conns.length from o_);rw[<-hl] at h;exact PB h h0
theorem Ahe {l:Sc_} {k:Int} (h1:needsTo l.page (l.conns.getD k.toNat default).to=true) (h2:(l.conns.getD k.toNat default).guess=true):finish1 l k={ net:=keepAnswer l.net l.page.addr.host (l.conns.getD k.toNat default).to (l.conns.getD k.toNat default).bd,page:=takeAnswer l.page (l.conns.getD k.toNat default).to (l.conns.getD k.toNat default).bd,parts:=l.parts,conns:=closeConn l.conns k,guesses:=l.guesses }:=by
 unfold finish1 finishC;dsimp only;rw[Qa2 h1,Qa2 h2]
theorem Ahm {l:Sc_} {k:Int} (h1:needsTo l.page (l.conns.getD k.toNat default).to=true) (h2:(l.conns.getD k.toNat default).guess=false):finish1 l k={ net:=l.net,page:=takeAnswer l.page (l.conns.getD k.toNat default).to (l.conns.getD k.toNat default).bd,parts:=l.parts,conns:=closeConn l.conns k,guesses:=l.guesses }:=by
 unfold finish1 finishC;dsimp only;rw[Qa2 h1,Qa4 (by rw[h2];decide)]
theorem Ah2 {l:Sc_} {k:Int} (h1:needsTo l.page (l.conns.getD k.toNat default).to=false) (h2:(l.conns.getD k.toNat default).guess=true):finish1 l k={ net:=l.net,page:=l.page,parts:=l.parts,conns:=closeConn l.conns k,guesses:=(addGuess l.guesses (l.conns.getD k.toNat default).to (l.conns.getD k.toNat default).bd).1 }:=by
 unfold finish1 finishC;dsimp only;rw[Qa4 (by rw[h1];decide),Qa2 h2]
theorem AhQ {l:Sc_} {k:Int} (h1:needsTo l.page (l.conns.getD k.toNat default).to=false) (h2:(l.conns.getD k.toNat default).guess=false):finish1 l k={ net:=l.net,page:=l.page,parts:=l.parts,conns:=closeConn l.conns k,guesses:=l.guesses }:=by
 unfold finish1 finishC;dsimp only;rw[Qa4 (by rw[h1];decide),Qa4 (by rw[h2];decide)]
def Ds:Fct:=⟨[.v (.el .loader),.v (.el .int)],[.el .loader,.el .bool],λ(x_:Sc_×Int×Unit)=>okTr x_.1,λ(x_:Sc_×Int×Unit)=>((transfer x_.1 x_.2.1).1,(transfer x_.1 x_.2.1).2,())⟩
abbrev Dc (l:Sc_) (b:Int):LInv:=⟨[⟨.b,6,true,.el .loader⟩,⟨.s,7,true,.el .int⟩,⟨.b,2,false,.el .loader⟩,⟨.b,4,true,.el .loader⟩],λ(z_ x_:Sc_×Int×Sc_×Sc_×Unit)=>((0<=x_.2.1/\x_.2.1<=l.conns.length/\xInv (xfer l.conns.length (moved l b)) x_.1 (l.conns.length-x_.2.1.toNat))/\x_.2.2.1=z_.2.2.1)/\x_.2.2.2.1=z_.2.2.2.1,λ(x_:Sc_×Int×Sc_×Sc_×Unit)=>l.conns.length-x_.2.1.toNat⟩
def AjT:=Alq.a Ds<|Fct.p (KP [1,2,4,5,6,7,8] [19,30,37]) (λ⟨l,b,_⟩=>lv [(6,Dc l b)]) Alq.2 func135 (by
 rintro⟨(l:Sc_),(b:Int),_⟩ hp;refine ho (.cl fCopyLoader (l,()) λz2=>.br ((l.conns.length:Int)==0) (.lf Ds (z2.1,false,())) (.cl fInRange (b,(1:Int),(1000:Int),()) λz3=>.br (!z3.1) (.lf Ds (z2.1,false,())) (.cl IG (l.conns,b,()) λz4=>lpx (Dc l b) ((⟨z2.1.net,z2.1.page,z2.1.parts,z4.1,z2.1.guesses⟩:Sc_),((0:Int),(l,(default,())))) λ(y5:Sc_×Int×Sc_×Sc_×PUnit) bk5=>.br (decide (y5.2.1<(y5.2.2.1.conns.length:Int))) (.cl Gq (y5.1.conns,()) λ(z5:Int×PUnit)=>.br (decide (z5.1<0)) (.lf Ds (y5.1,true,())) (.ob (Fz.pre (y5.1,z5.1,()))<|.lt _ (Fz.fn (y5.1,z5.1,())) λz6=>.ob (Value.int IntKind.i64 b=Value.int IntKind.i64 b)<|.ob (bk5 (z6.1.1,(w1 y5.2.1,(y5.2.2.1,(y5.2.2.2.1,())))))<|.ok)) (.lf Ds (y5.1,true,()))))) ?_;refine Af ?_ λ_=>(Ab (λh2=>lfY ?_) (λh2=>Af trivial λ_=>(Ab (λh3=>lfY ?_) (λh3=>Af ?_ λ_=>(An ?_ λ(y5:Sc_×Int×Sc_×Sc_×PUnit) i5=>Ab (λh6=>Af ?_ λ_=>(Ab (λh8=>lfY ?_) (λh8=>Aa ?_ λ_=>D6 (Aa rfl λ_=>Aa ?_ λ_=>trivial)))) (λh6=>lfY ?_))))))
 all_goals obtain⟨q1,q2⟩:=(show okTr l from hp)
 all_goals
  have hc:=I9 q1 q2;try simp only[Hd] at *
  try simp only[Dc,fCopyLoader,Fz,Gq,fInRange,IG,Ds,std,Nat.reduceAdd] at *
 all_goals first|trivial|omega|exact hc|exact hc.2.2.2.1|(rw[Zz (.inl o_)];exact⟨rfl,rfl⟩)|(rw[Zz (.inr ‹_›)];exact⟨rfl,rfl⟩)|exact⟨o_,o_,AcF q1 b⟩|skip
 all_goals (obtain⟨⟨⟨a1,a2,a3⟩,e1⟩,e2⟩:=i5;simp only[e1] at *)
 all_goals
  have hf:=QT a3.1;have hd:=D8 y5.1.conns 0 o_;have ha:=a3.2.1
 all_goals first|trivial|omega|exact hf.2.1.1|exact⟨hf,o_,o_⟩|(rw[Acg o_ ‹_›];exact⟨QE a3 o_,rfl⟩)|skip
 all_goals rw[show l.conns.length-y5.2.1.toNat=(l.conns.length-(y5.2.1.toNat+1))+1 from o_] at a3
 all_goals rw[Ag o_,show(y5.2.1+1).toNat=y5.2.1.toNat+1 from o_]
 all_goals exact⟨⟨⟨⟨o_,o_,PB a3 o_⟩,by trivial⟩,e2⟩,o_⟩)
abbrev BY (l:Sc_) (b:Int):LInv:=⟨[⟨.b,6,true,.el .loader⟩,⟨.b,4,true,.el .loader⟩],λ(z_ x_:Sc_×Sc_×Unit)=>(xInv (xfer l.conns.length (moved l b)) x_.1 x_.1.conns.length)/\x_.2.1=z_.2.1,λ(x_:Sc_×Sc_×Unit)=>x_.1.conns.length⟩
def Al9:=AjT.a Ds<|Fct.p (KP [1,2,4,5,6,7,8,9] [20,31,48,59,72]) (λ⟨l,b,_⟩=>lv [(5,BY l b)]) AjT.2 func150 (by
 rintro⟨(l:Sc_),(b:Int),_⟩ hp;refine ho (let q1_:=Value.int IntKind.i64 b=Value.int IntKind.i64 b;.cl fCopyLoader (l,()) λz2=>let q2_:Out:=.lf Ds (z2.1,false,());.br ((l.conns.length:Int)==0) q2_ (.cl fInRange (b,(1:Int),(1000:Int),()) λz3=>.br (!z3.1) q2_ (.cl IG (z2.1.conns,b,()) λz4=>lpx (BY l b) (({z2.1 with conns:=z4.1}:Sc_),(default,())) λ(y5:Sc_×Sc_×PUnit) bk5=>.cl Gq (y5.1.conns,()) λ(z5:Int×PUnit)=>let q0_:=y5.1.conns.getD z5.1.toNat default;.br (decide (z5.1<0)) (.lf Ds (y5.1,true,())) (.ob (inB z5.1 y5.1.conns.length)<|.ob (z5.1.toNat<y5.1.conns.length)<|.cl Cp (y5.1.conns,z5.1,()) λz6=>.cl Bu (y5.1.page,()) λz7=>.cl AJ (z7.1,(y5.1.conns.getD z5.1.toNat default,()),()) λz8=>.br (z8.1) (.cl A2 (y5.1.page,q0_.to,q0_.bd,()) λz9=>.br (q0_.guess) (.cl fKeepAnswer (y5.1.net,z9.1.addr.host,q0_.to,q0_.bd,()) λz10=>.ob q1_<|.ob (bk5 ((⟨z10.1,z9.1,y5.1.parts,z6.1,y5.1.guesses⟩:Sc_),(y5.2.1,())))<|.ok) (.ob q1_<|.ob (bk5 (({y5.1 with page:=z9.1,conns:=z6.1}:Sc_),(y5.2.1,())))<|.ok)) (.br (q0_.guess) (.cl CU (y5.1.guesses,q0_.to,q0_.bd,()) λz11=>.ob q1_<|.ob (bk5 (({y5.1 with conns:=z6.1,guesses:=z11.1}:Sc_),(y5.2.1,())))<|.ok) (.ob q1_<|.ob (bk5 (({y5.1 with conns:=z6.1}:Sc_),(y5.2.1,())))<|.ok)))))) ?_;repeat' first|(guard_target =~ Out.holds _ _;first|refine An (li:=BY l b) ?_ λ(y5:Sc_×Sc_×PUnit) i5=>?_|refine lfY ?_|refine Ab (λ_=>?_) λ_=>?_|refine Af ?_ λ_=>?_|refine Aa ?_ λ_=>?_)|exact trivial
 all_goals obtain⟨q1,q2⟩:=(show okTr l from hp)
 all_goals
  have hc:=I9 q1 q2;try simp only[Hd] at *
  try simp only[BY,CU,Cp,AJ,fCopyLoader,Gq,fInRange,fKeepAnswer,IG,Bu,A2,Ds,std,Nat.reduceAdd] at *
 all_goals first|trivial|omega|exact hc|exact hc.2.2.2.1|(rw[Zz (.inl o_)];exact⟨rfl,rfl⟩)|(rw[Zz (.inr ‹_›)];exact⟨rfl,rfl⟩)|(rw[Dn];exact AcF q1 b)|skip
 all_goals (obtain⟨a3,e1⟩:=i5)
 all_goals
  have hf:=QT a3.1;have hd:=D8 y5.1.conns 0 o_
 all_goals first|trivial|omega|exact hf.2.1.1|exact hf.2.2.1|exact hf.1.2|(rw[Acg o_ ‹_›];exact⟨QE a3 o_,rfl⟩)|skip
 all_goals
  have hcs:=hf.2.1.2 _ (A7 (show(firstDone y5.1.conns 0).toNat<y5.1.conns.length from o_));have hs1:(y5.1.conns.getD (firstDone y5.1.conns 0).toNat default).bd.body.size+(y5.1.conns.getD (firstDone y5.1.conns 0).toNat default).bd.bj.size<=1048576:=hcs.1;have hn:=Fq y5.1.page;have hh:y5.1.page.addr.host.size<=4000000:=by have:=(Do (Ej hf.1.1)).2.1;simp only[szAddr] at this;omega
  have hz:=hf.2.2.2;have hw:=hf.1.2
 all_goals first|exact⟨o_,λ_=>trivial⟩|exact⟨hf.1.1,o_,o_,o_⟩|(rw[Gw];exact⟨o_,o_,o_,o_,o_⟩)|skip
 all_goals
  have hx:=XO a3 o_;have hl:=Hm (show 0<=firstDone y5.1.conns 0 from o_) (show firstDone y5.1.conns 0<y5.1.conns.length from o_);try rw[Gw]
 all_goals refine⟨⟨?_,e1⟩,o_⟩
 all_goals first|(rw[Ahe ‹_› ‹_›] at hx;exact hx)|(rw[Ahm ‹_› ‹_›] at hx;exact hx)|(rw[Ah2 ‹_› ‹_›] at hx;exact hx)|(rw[AhQ ‹_› ‹_›] at hx;exact hx))
theorem Acv:∀ l:List Si_,wCs l<=szL CD l
 | []=>Qa7 _
 | c::l=>by
  have:=Acv l;rw[Av];unfold wCs at *
  simp only[Qd2,List.sum_cons,wB,CD,Ae] at *
  omega
theorem Agt {l:Sc_} {k:Int} (h0:0<=k) (hk:k<l.conns.length):szL CD (finish1 l k).conns+szL BP (finish1 l k).guesses<=szL CD l.conns+szL BP l.guesses:=by
 have c1:=AaA h0 hk;have hg:=Afd l.guesses (l.conns.getD k.toNat default).to (l.conns.getD k.toNat default).bd;rw[Pj];simp only[CD] at c1;unfold finish1 finishC;split
 ·split<;>(dsimp only;omega)
 ·split<;>(dsimp only;omega)
def actOf (l:Sc_) (n:Int):Sc_×Bool:=if n=0 then arrivePart l else if n=1 then requestNext l else if n=2 then guessNext l else if n=3 then transfer l 20 else transfer l 200
def okAct (l:Sc_):Prop:=okArr l/\okRN l/\okGN l/\okTr l
def QF:Fct:=⟨[.v (.el .loader),.v (.el .int)],[.el .loader,.el .bool],λ(x_:Sc_×Int×Unit)=>okAct x_.1,λ(x_:Sc_×Int×Unit)=>((actOf x_.1 x_.2.1).1,(actOf x_.1 x_.2.1).2,())⟩
theorem q26 (l:Sc_) (n:Int) (hp:QF.pre (l,n,())):Out.holds (QF.ctr (l,n,())).post (.br (n==0) (.cl Cm (l,()) λz2=>.lf QF (z2.1,z2.2.1,())) (.br (n==1) (.cl BK (l,()) λz3=>.lf QF (z3.1,z3.2.1,())) (.br (n==2) (.cl CB (l,()) λz4=>.lf QF (z4.1,z4.2.1,())) (.br (n==3) (.cl Ds (l,(20:Int),()) λz5=>.lf QF (z5.1,z5.2.1,())) (.cl Ds (l,(200:Int),()) λz6=>.lf QF (z6.1,z6.2.1,())))))):=by
 repeat' (guard_target =~ Out.holds _ _;first|refine lfY ?_|refine Ab (λ_=>?_) λ_=>?_|refine Af ?_ λ_=>?_)
 all_goals obtain⟨w1,w2,w4,w3⟩:=(show okAct l from hp)
 all_goals try simp only[QF,Cm,CB,BK,Ds,std,Nat.reduceAdd] at *
 all_goals first|trivial|omega|exact w1|exact w2|exact w3|exact w4|skip
 all_goals unfold actOf
 all_goals repeat first|(rw[Qa2 o_];exact⟨rfl,rfl⟩)|rw[Qa4 o_]
 all_goals first|exact⟨rfl,rfl⟩|skip
def Amn:=Al9.a QF<|Fct.o (KP [1,2,4,5,6] [7,13,19,25]) Al9.2 func78 (by
 rintro⟨(l:Sc_),(n:Int),_⟩ hp;exact ho _ (q26 l n hp))
def AlM:=Amn.a QF<|Fct.o (KP [1,2,4,5,6] [7,13,19,25]) Amn.2 func84 (by
 rintro⟨(l:Sc_),(n:Int),_⟩ hp;exact ho _ (q26 l n hp))
def stepR (l:Sc_) (c:Int):Nat->Sc_×Bool
 | 0=>(l,false)
 | n+1=>if(actOf l ((max 0 c % 5+(4-(n:Int))) % 5)).2=true then(actOf l ((max 0 c % 5+(4-(n:Int))) % 5)) else stepR l c n
def stepLoad (l:Sc_) (c:Int):Sc_×Bool:=stepR l c 5
theorem tm5 {a:Int} (h:0<=a):Int.tmod a 5=a % 5:=Int.tmod_eq_emod_of_nonneg h
theorem Agp {l:Sc_} {c i:Int} (h0:0<=i) (h5:i<5):stepR l c (5-i.toNat)=if(actOf l ((IntKind.i64.wrap (Int.tmod (max 0 c) 5+i)).tmod 5)).2=true then actOf l ((IntKind.i64.wrap (Int.tmod (max 0 c) 5+i)).tmod 5) else stepR l c (5-(i.toNat+1)):=by
 have e:(IntKind.i64.wrap (Int.tmod (max 0 c) 5+i)).tmod 5=(max 0 c % 5+(4-((5-(i.toNat+1):Nat):Int))) % 5:=by rw[tm5 (show 0<=max 0 c from o_),Ag o_,tm5 o_,show(4-((5-(i.toNat+1):Nat):Int))=i from o_]
 rw[e,show 5-i.toNat=(5-(i.toNat+1))+1 from o_];rw[stepR]
theorem AgD {l:Sc_} {c i:Int} (h:5<=i):stepR l c (5-i.toNat)=(l,false):=by rw[show 5-i.toNat=0 from o_];rfl
def Dk:Fct:=⟨[.v (.el .loader),.v (.el .int)],[.el .loader,.el .bool],λ(x_:Sc_×Int×Unit)=>okAct x_.1,λ(x_:Sc_×Int×Unit)=>((stepLoad x_.1 x_.2.1).1,(stepLoad x_.1 x_.2.1).2,())⟩
abbrev C9 (l:Sc_) (c:Int):LInv:=⟨[⟨.s,7,true,.el .int⟩,⟨.b,2,false,.el .loader⟩,⟨.b,4,true,.el .loader⟩],λ(z_ x_:Int×Sc_×Sc_×Unit)=>((0<=x_.1/\x_.1<=5/\stepR l c (5-x_.1.toNat)=stepLoad l c)/\x_.2.1=z_.2.1)/\x_.2.2.1=z_.2.2.1,λ(x_:Int×Sc_×Sc_×Unit)=>5-x_.1.toNat⟩
def AlC:=AlM.a Dk<|Fct.p (KP [1,2,4,5,6,7,8,9] [14,26]) (λ⟨l,c,_⟩=>lv [(3,C9 l c)]) AlM.2 func23 (by
 rintro⟨(l:Sc_),(c:Int),_⟩ hp;refine ho (.cl Y4 ((0:Int),c,()) λ(z2:Int×PUnit)=>.ob ((5:Int)≠(0:Int))<|lpx (C9 l c) ((0:Int),(l,(default,()))) λ(y2:Int×Sc_×Sc_×PUnit) bk2=>.br (decide (y2.1<5)) (.ob ((5:Int)≠(0:Int))<|.cl QF (y2.2.1,(wr (z2.1.tmod (5:Int)+y2.1)).tmod (5:Int),()) λz3=>.br (z3.2.1) (.lf Dk (z3.1,true,())) (.ob (Value.int IntKind.i64 c=Value.int IntKind.i64 c)<|.ob (Value.int IntKind.i64 (z2.1.tmod (5:Int))=Value.int IntKind.i64 (z2.1.tmod (5:Int)))<|.ob (bk2 (w1 y2.1,(y2.2.1,(y2.2.2.1,()))))<|.ok)) (.cl fCopyLoader (y2.2.1,()) λz4=>.lf Dk (z4.1,false,()))) ?_;refine Af trivial λ_=>(Aa ?_ λ_=>An ?_ λ(y2:Int×Sc_×Sc_×PUnit) i2=>Ab (λh3=>Aa ?_ λ_=>Af ?_ λ_=>(Ab (λh6=>lfY ?_) (λh6=>Aa rfl λ_=>Aa rfl λ_=>Aa ?_ λ_=>trivial))) (λh3=>Af ?_ λ_=>(lfY ?_)))
 all_goals
  have hq:=(show okAct l from hp);have hw:=hq.2.2.2;try simp only[C9,QF,fCopyLoader,Y4,Dk,std,Nat.reduceAdd] at *
 all_goals first|trivial|omega|exact⟨o_,o_,rfl⟩|skip
 all_goals (obtain⟨⟨⟨a1,a2,a3⟩,e1⟩,e2⟩:=i2;simp only[e1] at *)
 all_goals first|trivial|omega|exact hq|exact I9 hw.1 hw.2|skip
 all_goals first|(rw[AgD o_] at a3;rw[<-a3];exact⟨rfl,rfl⟩)|rw[Agp a1 o_] at a3
 all_goals first|(rw[Qa2 ‹_›] at a3;rw[<-a3];exact⟨rfl,Eq.symm ‹_›⟩)|(rw[Qa4 (λq=>tf q ‹_›)] at a3;rw[Ag o_,show(y2.1+1).toNat=y2.1.toNat+1 from o_];exact⟨⟨⟨⟨o_,o_,a3⟩,by trivial⟩,e2⟩,o_⟩))
abbrev C8 (l:Sc_) (c:Int):LInv:=⟨[⟨.s,6,true,.el .int⟩,⟨.b,2,false,.el .loader⟩,⟨.b,4,true,.el .loader⟩],λ(z_ x_:Int×Sc_×Sc_×Unit)=>((0<=x_.1/\x_.1<=5/\stepR l c (5-x_.1.toNat)=stepLoad l c)/\x_.2.1=z_.2.1)/\x_.2.2.1=z_.2.2.1,λ(x_:Int×Sc_×Sc_×Unit)=>5-x_.1.toNat⟩
def Amg:=AlC.a Dk<|Fct.p (KP [1,2,4,5,6,7,8] [10,24]) (λ⟨l,c,_⟩=>lv [(2,C8 l c)]) AlC.2 func25 (by
 rintro⟨(l:Sc_),(c:Int),_⟩ hp;refine ho (lpx (C8 l c) ((0:Int),(l,(default,()))) λ(y1:Int×Sc_×Sc_×PUnit) bk1=>.br (decide (y1.1<5)) (.ob ((5:Int)≠(0:Int))<|.ob ((5:Int)≠(0:Int))<|.cl QF (y1.2.1,(wr ((if c>0 then c else(0:Int)).tmod (5:Int)+y1.1)).tmod (5:Int),()) λz2=>.br (z2.2.1) (.lf Dk (z2.1,true,())) (.ob (Value.int IntKind.i64 c=Value.int IntKind.i64 c)<|.ob (bk1 (w1 y1.1,(y1.2.1,(y1.2.2.1,()))))<|.ok)) (.cl fCopyLoader (y1.2.1,()) λz3=>.lf Dk (z3.1,false,()))) ?_;refine An ?_ λ(y1:Int×Sc_×Sc_×PUnit) i1=>Ab (λh2=>Aa ?_ λ_=>Aa ?_ λ_=>Af ?_ λ_=>(Ab (λh6=>lfY ?_) (λh6=>Aa rfl λ_=>Aa ?_ λ_=>trivial))) (λh2=>Af ?_ λ_=>(lfY ?_))
 all_goals
  have hq:=(show okAct l from hp);have hw:=hq.2.2.2;try simp only[C8,QF,fCopyLoader,Dk,std,Nat.reduceAdd] at *
  try simp only[show(if c>0 then c else 0)=max 0 c from by split<;>omega] at *
 all_goals first|trivial|omega|exact⟨o_,o_,rfl⟩|skip
 all_goals (obtain⟨⟨⟨a1,a2,a3⟩,e1⟩,e2⟩:=i1;simp only[e1] at *)
 all_goals first|trivial|omega|exact hq|exact I9 hw.1 hw.2|skip
 all_goals first|(rw[AgD o_] at a3;rw[<-a3];exact⟨rfl,rfl⟩)|rw[Agp a1 o_] at a3
 all_goals first|(rw[Qa2 ‹_›] at a3;rw[<-a3];exact⟨rfl,Eq.symm ‹_›⟩)|(rw[Qa4 (λq=>tf q ‹_›)] at a3;rw[Ag o_,show(y1.1+1).toNat=y1.1.toNat+1 from o_];exact⟨⟨⟨⟨o_,o_,a3⟩,by trivial⟩,e2⟩,o_⟩))
def Kp (p:Sa_):Prop:=okTo p/\-9223372036854775808<=p.block/\p.block<=9223372036854775807
theorem Tc {p q:Sa_} (h:Kp p) (hs:q.bf=p.bf) (hm:q.bh=p.bh) (hb:q.block=p.block):Kp q:=by
 unfold Kp okTo at *
 rw[hs,hm,hb];exact h
theorem UB (p:Sa_) (m:Int) (to d:ByteArray) (n:Int):(newSlot p m to d n).to=(parseAddr to p.addr.host).1:=by unfold newSlot;split<;>rfl
theorem Th {p:Sa_} (h:Kp p) (m:Int) (to d:ByteArray) (n:Int):Kp (addSlot p m to d n).1:=by
 unfold addSlot;split
 ·refine⟨⟨λs hs=>?_,h.1.2⟩,h.2⟩;rcases Qb9.1 hs with q|q
  ·exact h.1.1 s q
  ·rw[List.mem_singleton.1 q,UB];have:=Fm to p.addr.host;omega
 ·exact h
theorem Agj {p:Sa_} (h:Kp p) {a:Sb_} (ha:szAddr a<=16):Kp (askModule p a):=by
 unfold askModule;split
 ·exact h
 ·refine⟨⟨h.1.1,λm hm=>?_⟩,h.2⟩;rcases Qb9.1 hm with q|q
  ·exact h.1.2 m (List.mem_of_mem_take q)
  ·rcases Qe6.1 q with q|q
   ·rw[q];have e:(newMod p a).to=a:=by unfold newMod;first|rfl|(split<;>rfl)
    rw[e];omega
   ·exact h.1.2 m (List.mem_of_mem_drop q)
theorem AeP {p:Sa_} (h:Kp p) (to:ByteArray):Kp (addEntry p to):=by
 unfold addEntry;split
 ·exact Tc (Agj h (Fm to p.addr.host)) rfl rfl rfl
 ·exact h
theorem WF {p:Sa_} (h:Kp p) (t:Sh_) (n:Int):Kp (element p t n):=by
 unfold element;split
 ·exact Th h ..
 ·split
  ·exact Th h ..
  ·exact h
theorem Zy {p:Sa_} (h:Kp p) (n:Int):Kp (script p n):=by
 unfold script;split
 ·split
  ·exact Tc h rfl rfl rfl
  ·exact h
 ·split
  ·exact Th h ..
  ·split
   ·exact AeP h ..
   ·have hb:=JT p 3 ((findAttr (p.ba.bi.getD n.toNat default).bo ⟨#[115,114,99]⟩).getD ⟨#[]⟩) ((findAttr (p.ba.bi.getD n.toNat default).bo ⟨#[100,105,103,101,115,116]⟩).getD ⟨#[]⟩) n;exact⟨(Th h ..).1,by dsimp only;omega,by dsimp only;omega⟩
theorem Agh {p:Sa_} (h:Kp p) (s:ByteArray):Kp (say p s):=by
 unfold say;split
 ·exact Tc h rfl rfl rfl
 ·exact h
theorem Ade {p:Sa_} (h:Kp p) (c:ByteArray) (w:Bool):Kp (runCode p c w):=by
 unfold runCode;split
 ·exact Tc h rfl rfl rfl
 ·exact Tc h rfl rfl rfl
theorem Afj {p:Sa_} (h:Kp p):Kp (takeToken p).1:=by
 unfold takeToken;split
 ·exact h
 ·have ht:Kp (taken p (p.bn.getD 0 default)):=Tc h rfl rfl rfl;show Kp (takeTok p _);unfold takeTok;split
  ·exact WF ht _ _
  ·split
   ·exact Zy ht _
   ·exact ht
theorem Ac0 {p:Sa_} (h:Kp p):Kp { p with block:=0 }:=⟨h.1,by dsimp only;omega,by dsimp only;omega⟩
theorem ZU {p:Sa_} (h:Kp p):Kp (stepParser p).1:=by
 unfold stepParser;split
 ·unfold stepInline;split
  ·exact Tc (Ade h _ _) rfl rfl rfl
  ·exact h
 ·split
  ·unfold stepBlock;split
   ·exact Ac0 h
   ·split
    ·exact h
    ·split
     ·exact Ac0 (Ade h _ _)
     ·exact Ac0 h
  ·exact Afj h
theorem MV (p:Sa_):∀ (l:List Sb_) (q:Sa_),Kp q->Kp (enterAll p q l)
 | [],q,h=>h
 | b::l,q,h=>by
  refine MV p l (enter1 p q b) ?_;unfold enter1;split
  ·exact h
  ·exact Tc h rfl rfl rfl
theorem Adp {p:Sa_} (h:Kp p) (a:Sb_):Kp (enter p a):=by
 unfold enter;split
 ·exact Agh h _
 ·exact MV p _ p h
theorem AgE {p:Sa_} (h:Kp p):Kp (stepTail p).1:=by
 unfold stepTail;split
 ·exact h
 ·split
  ·unfold tailDefer;split
   ·exact h
   ·split
    ·exact Tc (Ade h _ _) rfl rfl rfl
    ·exact Tc h rfl rfl rfl
  ·split
   ·unfold tailEnter;split
    ·exact h
    ·exact Tc (Adp h _) rfl rfl rfl
   ·split
    ·exact h
    ·exact Tc (Agh h _) rfl rfl rfl
theorem Aem:∀ (n:Nat) (p:Sa_),Kp p->Kp (adv n p)
 | 0,p,h=>h
 | n+1,p,h=>by
  rw[adv];split
  ·refine Aem n _ ?_;unfold step1;split
   ·exact ZU h
   ·exact AgE h
  ·exact h
theorem Acz:∀ (l:List Sb_) (p:Sa_),Kp p->(∀ b,b∈l->b.host.size<=8/\b.path.size<=8)->Kp (l.foldl askModule p)
 | [],p,h,_=>h
 | b::l,p,h,hb=>Acz l (askModule p b) (Agj h (by have:=hb b Qe8;simp only[szAddr];omega)) λc hc=>hb c (Qd0 _ hc)
theorem AbH (p:Sa_) (a:Sb_) (x:Sd_) (s:Sp_):(fillF p a x s).to=s.to:=by
 unfold fillF;split
 ·unfold fillS;split<;>rfl
 ·rfl
theorem Jn {α:Type} {f:α->α} {m:α}:∀ {l:List α} {i:Nat},m∈l.modify i f->m∈l\/∃ z,z∈l/\m=f z
 | [],0,h=>.inl h
 | [],_+1,h=>.inl h
 | z::l,0,h=>by
  rcases Qe6.1 (show m∈f z::l from h) with q|q
  ·exact .inr ⟨z,Qe8,q⟩
  ·exact .inl (Qd0 _ q)
 | z::l,i+1,h=>by
  rcases Qe6.1 (show m∈z::l.modify i f from h) with q|q
  ·exact .inl (by rw[q];exact Qe8)
  ·rcases Jn q with q|⟨w,h1,h2⟩
   ·exact .inl (Qd0 _ q)
   ·exact .inr ⟨w,Qd0 _ h1,h2⟩
theorem Aa4 {p:Sa_} (h:Kp p) (a:Sb_) (x:Sd_):Kp (fillM0 p a x):=by
 refine⟨⟨h.1.1,λm hm=>?_⟩,h.2⟩;rcases Jn (show m∈p.bh.modify (findMod p.bh a).toNat (fillM p x) from hm) with q|⟨z,h1,h2⟩
 ·exact h.1.2 m q
 ·rw[h2];exact h.1.2 z h1
theorem NN {p:Sa_} (h:Kp p) (a:Sb_) (x:Sd_):Kp (takeAnswer p a x):=by
 have h1:Kp (fillAll p a x):=by refine⟨⟨λs hs=>?_,h.1.2⟩,h.2⟩;obtain⟨z,hz,rfl⟩:=Qg7.1 (show s∈p.bf.map (fillF p a x) from hs);rw[AbH];exact h.1.1 z hz
 refine Aem 2000 _ ?_;unfold fillModule;split
 ·exact h1
 ·rename_i hc;exact Acz _ _ (Aa4 h1 a x) (JL (x:=x) (show 0<=findMod (fillAll p a x).bh a from o_)).1
theorem AgL {p:Sa_} (h:Kp p) (s:ByteArray):Kp (arriveText p s):=by
 unfold arriveText;split
 ·exact h
 ·exact Tc h rfl rfl rfl
theorem Ahq {p:Sa_} (h:Kp p):Kp (endPage p):=by
 unfold endPage;split
 ·exact h
 ·exact Tc h rfl rfl rfl
theorem GA (p:Sa_) (m:Int) (to d:ByteArray) (n:Int):(addSlot p m to d n).1.tok=p.tok:=by unfold addSlot;split<;>rfl
theorem Vy (p:Sa_) (a:Sb_):(askModule p a).tok=p.tok:=by unfold askModule;split<;>rfl
theorem Pe (p:Sa_) (to:ByteArray):(addEntry p to).tok=p.tok:=by
 unfold addEntry;split
 ·exact Vy p _
 ·rfl
theorem RS (p:Sa_) (t:Sh_) (n:Int):(element p t n).tok=p.tok:=by
 unfold element;split
 ·exact GA ..
 ·split
  ·exact GA ..
  ·rfl
theorem Uh (p:Sa_) (n:Int):(script p n).tok=p.tok:=by
 unfold script;split
 ·split<;>rfl
 ·split
  ·exact GA ..
  ·split
   ·exact Pe ..
   ·exact GA p ..
theorem Wo (p:Sa_) (s:ByteArray):(say p s).tok=p.tok:=by unfold say;split<;>rfl
theorem Is (p:Sa_) (c:ByteArray) (w:Bool):(runCode p c w).tok=p.tok:=by unfold runCode;split<;>rfl
theorem NO (p:Sa_):(takeToken p).1.tok=p.tok:=by
 unfold takeToken;split
 ·rfl
 ·show(takeTok p _).tok=_;unfold takeTok;split
  ·exact RS _ _ _
  ·split
   ·exact Uh _ _
   ·rfl
theorem Un (p:Sa_):(stepParser p).1.tok=p.tok:=by
 unfold stepParser;split
 ·unfold stepInline;split
  ·exact Is _ _ _
  ·rfl
 ·split
  ·unfold stepBlock;split
   ·rfl
   ·split
    ·rfl
    ·split
     ·exact Is _ _ _
     ·rfl
  ·exact NO p
theorem Kd (p:Sa_):∀ (l:List Sb_) (q:Sa_),(enterAll p q l).tok=q.tok
 | [],q=>rfl
 | b::l,q=>by have:=Kd p l (enter1 p q b);refine this.trans ?_;unfold enter1;split<;>rfl
theorem Wa (p:Sa_) (a:Sb_):(enter p a).tok=p.tok:=by
 unfold enter;split
 ·exact Wo _ _
 ·exact Kd p _ p
theorem Aag (p:Sa_):(stepTail p).1.tok=p.tok:=by
 unfold stepTail;split
 ·rfl
 ·split
  ·unfold tailDefer;split
   ·rfl
   ·split
    ·exact Is _ _ _
    ·rfl
  ·split
   ·unfold tailEnter;split
    ·rfl
    ·exact Wa _ _
   ·split
    ·rfl
    ·exact Wo _ _
theorem RX:∀ (n:Nat) (p:Sa_),(adv n p).tok=p.tok
 | 0,p=>rfl
 | n+1,p=>by
  rw[adv];split
  ·refine(RX n _).trans ?_;unfold step1;split
   ·exact Un p
   ·exact Aag p
  ·rfl
theorem SO:∀ (l:List Sb_) (p:Sa_),(l.foldl askModule p).tok=p.tok
 | [],p=>rfl
 | b::l,p=>(SO l (askModule p b)).trans (Vy p b)
theorem M2 (p:Sa_) (a:Sb_) (x:Sd_):(takeAnswer p a x).tok=p.tok:=by
 refine(RX 2000 _).trans ?_;unfold fillModule;split
 ·rfl
 ·exact SO _ _
theorem Yc {all:List Sq_}:∀ {l:List Sq_} {k:Int},entOk all l k=true->∀ e,e∈l->Ae e.bd<=700
 | [],_,_,e,he=>by cases he
 | y::l,k,h,e,he=>Ph (JH h e he)
def okNg (G:Nat) (n:Su_):Prop:=szL A1 n.servers<=1048576/\szCache n.cache<=2097152/\(∀ e,e∈n.cache.bg->Ae e.bd<=1048576)/\szL D4 n.log+2100000*G<=7000000000
theorem U3 {G:Nat} {n:Su_} (h:okNg G n):okNt n:=⟨by simp only[szNet];have:=h.1;have:=h.2.1;have:=h.2.2.2;omega,by have:=h.2.1;omega,h.1,h.2.2.1⟩
theorem AhN {G:Nat} {n:Su_} (h:okNg G n):okNk n:=⟨by simp only[szNet];have:=h.1;have:=h.2.2.2;omega,by have:=h.2.1;omega⟩
theorem JW {G:Nat} {n:Su_} (h:okNg (G+1) n):okNg G n:=⟨h.1,h.2.1,h.2.2.1,by have:=h.2.2.2;omega⟩
theorem keep_ng {G:Nat} {n:Su_} (h:okNg G n) (t:ByteArray) (a:Sb_) (x:Sd_):okNg G (keepAnswer n t a x):=by
 unfold keepAnswer;split
 ·refine⟨h.1,Sv n.cache t a x n.now h.2.1 o_,λe he=>?_,h.2.2.2⟩;have he:e∈(storeEntry n.cache t a x n.now).bg:=he;unfold storeEntry at he;split at he
  ·rename_i q;have q:=q.2.2.2;unfold isCache at q;rw[Qa1] at q;exact Qd8 (Yc q.1 e he) o_
  ·exact h.2.2.1 e he
 ·exact h
theorem Acu {G:Nat} {n:Su_} (h:okNg (G+1) n) {t:ByteArray} {a:Sb_} (g:Bool) (ht:t.size<=2097152) (ha:szAddr a<=16):okNg G (logSent n t a g):=by
 have h4:=h.2.2.2;unfold logSent;split
 ·refine⟨h.1,h.2.1,h.2.2.1,?_⟩;show szL D4 (n.log++[⟨t,a,g⟩])+2100000*G<=7000000000;rw[EP];simp only[D4];omega
 ·exact JW h
theorem SX {G:Nat} {n:Su_} (h:okNg (G+1) n) {t:ByteArray} (a:Sb_) (g:Bool) (ht:t.size<=2097152):okNg G (fetchNow n t a g).1:=by
 unfold fetchNow;split
 ·exact JW h
 ·rename_i hn;split
  ·exact JW h
  ·have ha:szAddr a<=16:=by
    have e:(isName a.host&&isName a.path)=true:=by
     cases q:(isName a.host&&isName a.path) with
     | true=>rfl
     | false=>exact absurd (by first|exact q|(rw[q];rfl)|(simp[q])) hn
    rw[Qa1] at e;have a1:=Hk e.1;have a2:=Hk e.2;simp only[szAddr];omega
   dsimp only;split
   ·exact Acu h g ht ha
   ·exact keep_ng (Acu h g ht ha) _ _ _
def okL (G:Nat) (l:Sc_):Prop:=(∃ Q M R,okAll l.page Q M R/\Q+740000*l.conns.length+8000000*G<=889000000000/\M+600*wCs l.conns+250000*G<=48000000000/\R+20*wCs l.conns+10000*G<=18000000000)/\(Kp l.page/\l.page.addr.host.size<=2097152/\l.page.tok.rest.size+szL Ad l.parts<=2900000)/\(okCs l.conns/\l.conns.length<=1048576/\l.guesses.length+l.conns.length+G<=4194304/\okGs l.guesses)/\okNg G l.net
theorem GQ {G:Nat} {l:Sc_} (h:okL (G+1) l):okL G l:=by
 obtain⟨⟨Q,M,R,h1,h2,h3,h4⟩,h5,⟨h6,h7,h8,h9⟩,h10⟩:=h;exact⟨⟨Q,M,R,h1,o_,o_,o_⟩,h5,⟨h6,h7,o_,h9⟩,JW h10⟩
theorem N4 {G:Nat} {l:Sc_} (h:okL G l):okAct l:=by
 obtain⟨⟨Q,M,R,h1,h2,h3,h4⟩,⟨k1,k2,k3⟩,⟨h6,h7,h8,h9⟩,h10⟩:=h;have hf:okFM l.page:=⟨Q,M,R,h1,o_,o_,o_⟩;have hp:=Do (Ej hf);have hn:=U3 h10;have hl:=Ac Ad l.parts;refine⟨⟨⟨by have:=hn.1;omega,h7,o_⟩,k3,Q,M,R,h1,o_,o_,o_⟩,⟨⟨⟨hf,k1.1,o_⟩,k1.2.1,k1.2.2,o_⟩,⟨h7,h6⟩,⟨o_,h9⟩,hn⟩,⟨hn,⟨hp.1,λt ht=>?_,o_⟩,o_,h7,o_⟩,⟨⟨Q,M,R,h1,o_,o_,o_⟩,⟨h6,h7,o_⟩,AhN h10⟩,o_⟩;have:=h1.1.1 t ht;omega
theorem AeU {l:Sc_}:(arrPage l).addr=l.page.addr:=by
 unfold arrPage;have e:(arriveText l.page (l.parts.getD 0 default)).addr=l.page.addr:=by unfold arriveText;split<;>rfl
 split
 ·refine Eq.trans ?_ e;unfold endPage;split<;>rfl
 ·exact e
theorem Zr {G:Nat} {l:Sc_} (h:okL (G+1) l):okL G (arrivePart l).1:=by
 by_cases hp:l.parts.length=0
 ·rw[XY hp];exact GQ h
 ·rw[LX hp];obtain⟨⟨Q,M,R,h1,h2,h3,h4⟩,⟨k1,k2,k3⟩,⟨h6,h7,h8,h9⟩,h10⟩:=h;have hg:=drop_cons (l:=l.parts) (i:=0) o_;have hz:szL Ad l.parts=(l.parts.getD 0 default).size+1+szL Ad (l.parts.drop 1):=by have e:szL Ad l.parts=szL Ad (l.parts.drop 0):=rfl;rw[e,hg,Av]
  obtain⟨a1,a2,a3⟩:=Acb h1 o_;have hk:Kp (arrPage l):=by
   unfold arrPage;split
   ·exact Ahq (AgL k1 _)
   ·exact AgL k1 _
  have et:(advance (arrPage l)).tok=(arrPage l).tok:=RX 2000 _;have ea:(advance (arrPage l)).addr=l.page.addr:=(Oi 2000 _).trans AeU;refine⟨⟨_,_,_,NA a2,by dsimp only;omega,by dsimp only;omega,by dsimp only;omega⟩,⟨Aem 2000 _ hk,by dsimp only;rw[ea];exact k2,by dsimp only;rw[et];omega⟩,⟨h6,h7,by dsimp only;omega,h9⟩,JW h10⟩
theorem YB {l:List Si_} {a:Sb_} {x:Sd_} {g:Bool} (h:okCs l) (ha:szAddr a<=4000000) (hx:Ae x<=1048576):okCs (openConn l a x g).1/\(openConn l a x g).1.length<=l.length+1/\((openConn l a x g).1.length<=3\/(openConn l a x g).1.length<=l.length)/\wCs (openConn l a x g).1<=wCs l+400:=by
 unfold openConn;split
 ·exact⟨h,Nat.le_succ _,.inr (Qa7 _),Qd6 _ _⟩
 ·rename_i q;refine⟨λc hc=>?_,by simp only[Qa3,Qa6,Qc0];omega,.inl (by simp only[Qa3,Qa6,Qc0];omega),?_⟩
  ·rcases Qb9.1 hc with q|q
   ·exact h c q
   ·rw[List.mem_singleton.1 q];exact⟨hx,ha⟩
  ·unfold wCs;simp only[List.map_append,Qd2,List.map_nil,List.sum_append,List.sum_cons,List.sum_nil];have:wB x<=400:=Nat.min_le_left _ _;omega
theorem AeL {l:List Sm_} (h:okGs l) (a:Sb_):okGs (useGuess l a).1/\(useGuess l a).1.length=l.length:=by
 unfold useGuess;split
 ·exact⟨h,rfl⟩
 ·refine⟨λg hg=>?_,List.length_modify ..⟩;rcases Jn hg with q|⟨z,h1,h2⟩
  ·exact h g q
  ·rw[h2];exact h z h1
theorem X9 {G:Nat} {l:Sc_} (h:okL (G+1) l):okL G (requestNext l).1:=by
 have hm:=GQ h;obtain⟨⟨Q,M,R,h1,h2,h3,h4⟩,⟨k1,k2,k3⟩,⟨h6,h7,h8,h9⟩,h10⟩:=h;have hn:=U3 h10;unfold requestNext;split
 ·exact hm
 ·rename_i hk;have ht:=ZJ (l:=l) k1.1 o_;split
  ·obtain⟨g1,g2⟩:=AeL h9 (reqTo l);have hw:wB (useGuess l.guesses (reqTo l)).2.1<=400:=Nat.min_le_left _ _;have et:(takeAnswer l.page (reqTo l) (useGuess l.guesses (reqTo l)).2.1).tok=l.page.tok:=M2 ..;have ea:(takeAnswer l.page (reqTo l) (useGuess l.guesses (reqTo l)).2.1).addr=l.page.addr:=Gw ..;exact⟨⟨_,_,_,Jj h1 (reqTo l) (useGuess l.guesses (reqTo l)).2.1,by dsimp only;omega,by dsimp only;omega,by dsimp only;omega⟩,⟨NN k1 _ _,by dsimp only;rw[ea];exact k2,by dsimp only;rw[et];exact k3⟩,⟨h6,h7,by dsimp only;omega,g1⟩,keep_ng (JW h10) _ _ _⟩
  ·split
   ·exact hm
   ·obtain⟨o1,o2,o3,o4⟩:=YB (g:=false) h6 ht (Ey (t:=l.page.addr.host) (a:=reqTo l) (g:=false) hn);exact⟨⟨Q,M,R,h1,by dsimp only;omega,by dsimp only;omega,by dsimp only;omega⟩,⟨k1,k2,k3⟩,⟨o1,by dsimp only;omega,by dsimp only;omega,h9⟩,SX h10 _ _ k2⟩
theorem Ack {G:Nat} {l:Sc_} (h:okL (G+1) l):∀ m:List Sb_,(∀ a,a∈m->szAddr a<=16)->okL G (nextGuess l m).1
 | [],_=>GQ h
 | a::m,hm=>by
  rw[nextGuess];split
  ·exact Ack h m λb hb=>hm b (Qd0 _ hb)
  ·obtain⟨⟨Q,M,R,h1,h2,h3,h4⟩,⟨k1,k2,k3⟩,⟨h6,h7,h8,h9⟩,h10⟩:=h;have ha:=hm a Qe8;obtain⟨o1,o2,o3,o4⟩:=YB (g:=true) h6 (show szAddr a<=4000000 from o_) (Ey (t:=l.page.addr.host) (a:=a) (g:=true) (U3 h10));exact⟨⟨Q,M,R,h1,by dsimp only;omega,by dsimp only;omega,by dsimp only;omega⟩,⟨k1,k2,k3⟩,⟨o1,by dsimp only;omega,by dsimp only;omega,h9⟩,SX h10 _ _ k2⟩
theorem Aeg {G:Nat} {l:Sc_} (h:okL (G+1) l):okL G (guessNext l).1:=by
 unfold guessNext;split
 ·exact GQ h
 ·refine Ack h _ λa ha=>?_
  obtain⟨i,hi,he⟩:=List.mem_iff_getElem.1 ha;have:=FW (p:=l.page) hi;rw[Qb1,Qa5 hi,he] at this;exact this
theorem AdF {l:List Sm_} {a:Sb_} {x:Sd_} (h:okGs l) (hx:Ae x<=1048576):okGs (addGuess l a x).1:=by
 unfold addGuess;split
 ·exact h
 ·intro g hg;rcases Qb9.1 hg with q|q
  ·exact h g q
  ·rw[List.mem_singleton.1 q];exact hx
theorem Abj {G:Nat} {l:Sc_} {k:Int} (h:okL G l) (h0:0<=k) (hk:k<l.conns.length):okL G (finish1 l k):=by
 obtain⟨⟨Q,M,R,h1,h2,h3,h4⟩,⟨k1,k2,k3⟩,⟨h6,h7,h8,h9⟩,h10⟩:=h;have c1:=Hm h0 hk;have c2:=PF h0 hk;have c3:=Sb h0 hk h6;have ha:=Jj h1 (l.conns.getD k.toNat default).to (l.conns.getD k.toNat default).bd;have hg:=Ss l.guesses (l.conns.getD k.toNat default).to (l.conns.getD k.toNat default).bd;have hr:=(h6 _ (A7 (show k.toNat<l.conns.length from o_))).1;have hgo:=AdF (a:=(l.conns.getD k.toNat default).to) h9 hr;have et:(takeAnswer l.page (l.conns.getD k.toNat default).to (l.conns.getD k.toNat default).bd).tok=l.page.tok:=M2 ..;have ea:(takeAnswer l.page (l.conns.getD k.toNat default).to (l.conns.getD k.toNat default).bd).addr=l.page.addr:=Gw ..;unfold finish1 finishC;dsimp only;split
 ·split
  ·exact⟨⟨_,_,_,ha,by dsimp only;omega,by dsimp only;omega,by dsimp only;omega⟩,⟨NN k1 _ _,by dsimp only;rw[ea];exact k2,by dsimp only;rw[et];exact k3⟩,⟨c3,by dsimp only;omega,by dsimp only;omega,h9⟩,keep_ng h10 _ _ _⟩
  ·exact⟨⟨_,_,_,ha,by dsimp only;omega,by dsimp only;omega,by dsimp only;omega⟩,⟨NN k1 _ _,by dsimp only;rw[ea];exact k2,by dsimp only;rw[et];exact k3⟩,⟨c3,by dsimp only;omega,by dsimp only;omega,h9⟩,h10⟩
 ·split
  ·exact⟨⟨_,_,_,h1,by dsimp only;omega,by dsimp only;omega,by dsimp only;omega⟩,⟨k1,k2,k3⟩,⟨c3,by dsimp only;omega,by dsimp only;omega,hgo⟩,h10⟩
  ·exact⟨⟨_,_,_,h1,by dsimp only;omega,by dsimp only;omega,by dsimp only;omega⟩,⟨k1,k2,k3⟩,⟨c3,by dsimp only;omega,by dsimp only;omega,h9⟩,h10⟩
theorem Acr {G:Nat}:∀ (n:Nat) (l:Sc_),okL G l->okL G (xfer n l)
 | 0,l,h=>h
 | n+1,l,h=>by
  rw[xfer];split
  ·exact h
  ·have hd:=D8 l.conns 0 o_;exact Acr n _ (Abj h o_ o_)
theorem AdL {G:Nat} {l:Sc_} (h:okL G l) (b:Int):okL G (moved l b):=by
 obtain⟨⟨Q,M,R,h1,h2,h3,h4⟩,⟨k1,k2,k3⟩,⟨h6,h7,h8,h9⟩,h10⟩:=h;have e1:=Dn l.conns b;have e2:=Acd l.conns b;unfold moved;exact⟨⟨Q,M,R,h1,by dsimp only;omega,by dsimp only;omega,by dsimp only;omega⟩,⟨k1,k2,k3⟩,⟨YF b h6,by dsimp only;omega,by dsimp only;omega,h9⟩,h10⟩
theorem Nv {G:Nat} {l:Sc_} (h:okL G l) (b:Int):okL G (transfer l b).1:=by
 unfold transfer;split
 ·exact h
 ·exact Acr _ _ (AdL h b)
theorem AhH {G:Nat} {l:Sc_} (h:okL (G+1) l) (n:Int):okL G (actOf l n).1:=by
 unfold actOf;split
 ·exact Zr h
 ·split
  ·exact X9 h
  ·split
   ·exact Aeg h
   ·split
    ·exact Nv (GQ h) 20
    ·exact Nv (GQ h) 200
theorem XK {G:Nat} {l:Sc_} (h:okL (G+1) l) (c:Int):∀ n,okL G (stepR l c n).1
 | 0=>GQ h
 | n+1=>by
  rw[stepR];split
  ·exact AhH h _
  ·exact XK h c n
theorem VY {G:Nat} {l:Sc_} (h:okL (G+1) l) (c:Int):okL G (stepLoad l c).1:=XK h c 5
theorem AgQ {l:Sc_} (h:Dm l<=1048576) (b1 : -9223372036854775808<=l.page.block) (b2:l.page.block<=9223372036854775807):okL 1200 l:=by
 have hr:=AeQ h b1 b2;obtain⟨⟨⟨_,q2,_⟩,_⟩,⟨q3,q4⟩,⟨q5,q6⟩,q7⟩:=hr;have c1:=Ac CD l.conns;have c2:=Ac BP l.guesses;have c4:=Acv l.conns;simp only[Dm] at h;have hi:okAll l.page 2000000 1100000000 10000000:=YM o_;have hh:l.page.addr.host.size+l.page.tok.rest.size<=szPage l.page:=by simp only[szPage,szAddr,Bp];omega
 refine⟨⟨_,_,_,hi,o_,o_,o_⟩,⟨⟨q2,b1,b2⟩,o_,o_⟩,⟨q4,q3,o_,q6⟩,q7.2.2.1,?_,q7.2.2.2,?_⟩
 ·simp only[szNet] at h;omega
 ·simp only[szNet] at h;omega
def finL (l:Sc_):Bool:=l.page.loaded&&decide (l.parts.length=0)
def stepTo (l:Sc_) (c:Int):Sc_:=(stepLoad l c).1
def runB:Nat->Sc_->Sc_
 | 0,l=>l
 | n+1,l=>if finL l=true then l else if(stepLoad l 0).2=true then runB n (stepTo l 0) else l
def runLoad (l:Sc_) (cs:List Int):Sc_:=runB 1000 ((cs.take 100).foldl stepTo l)
theorem AgI {G H:Nat} {l:Sc_} (h:okL H l) (hle:G<=H):okL G l:=by
 obtain⟨⟨Q,M,R,h1,h2,h3,h4⟩,h5,⟨h6,h7,h8,h9⟩,n1,n2,n3,n4⟩:=h;exact⟨⟨Q,M,R,h1,o_,o_,o_⟩,h5,⟨h6,h7,o_,h9⟩,n1,n2,n3,o_⟩
theorem ZL {G:Nat} {l:Sc_} (h:okL G l):szNet l.net<=68719476736/\szPage l.page<=1099511627776/\l.parts.length<=1000000000/\l.conns.length<=1048576/\l.guesses.length<=4194304:=I9 (N4 h).2.2.2.1 (N4 h).2.2.2.2
def stf:Nat->Int->Sc_->Int
 | 0,_,_=>-1
 | n+1,i,l=>if finL l=true then i else if(stepLoad l 0).2=true then stf n (i+1) (stepTo l 0) else -1
def G8:Fct:=⟨[.v (.el .loader)],[.el .int],λ(x_:Sc_×Unit)=>okL 1100 x_.1,λ(x_:Sc_×Unit)=>(stf 1001 0 x_.1,())⟩
theorem Ads {l:Sc_} {c:Int} (h:(stepLoad l c).2=false):(stepLoad l c).1=l:=by
 have key:∀ n,(stepR l c n).2=false->(stepR l c n).1=l:=by
  intro n
  induction n with
  | zero=>intro _;rfl
  | succ n ih=>
   rw[stepR];split
   ·rename_i q;intro h2;rw[q] at h2;cases h2
   ·exact ih
 exact key 5 h
theorem Vd {l:Sc_} (h:finL l=false) (h2:(stepLoad l 0).2=false):∀ n i,stf n i l = -1
 | 0,_=>rfl
 | n+1,i=>by rw[stf,Qa4 (by rw[h];decide),Qa4 (by rw[h2];decide)]
theorem Acn {l:Sc_} {n:Nat} {i:Int} (h:finL l=false):stf (n+1) i l=stf n (i+1) (stepLoad l 0).1:=by
 cases q:(stepLoad l 0).2 with
 | true=>rw[stf,Qa4 (by rw[h];decide),Qa2 q];rfl
 | false=>rw[Vd h q,Ads q,Vd h q]
theorem YW {l:Sc_} {n:Nat} {i:Int} (h:finL l=true):stf (n+1) i l=i:=by rw[stf,Qa2 h]
abbrev CQ (l:Sc_):LInv:=⟨[⟨.b,3,true,.el .loader⟩,⟨.s,4,true,.el .int⟩],λ_ (x_:Sc_×Int×Unit)=>0<=x_.2.1/\x_.2.1<=1001/\stf (1001-x_.2.1.toNat) x_.2.1 x_.1=stf 1001 0 l/\okL (1100-x_.2.1.toNat) x_.1,λ(x_:Sc_×Int×Unit)=>1001-x_.2.1.toNat⟩
def Ami:=Amg.a G8<|Fct.p (KP [1,2,3,4] [8,12]) (λ⟨l,_⟩=>lv [(3,CQ l)]) Amg.2 func31 (by
 rintro⟨(l:Sc_),_⟩ hp;refine ho (.cl fCopyLoader (l,()) λz2=>lpx (CQ l) (z2.1,((0:Int),())) λ(y2:Sc_×Int×PUnit) bk2=>.br (decide (y2.2.1<=1000)) (.cl Co (y2.1,()) λz3=>.br (z3.1) (.lf G8 (y2.2.1,())) (.cl Dk (y2.1,(0:Int),()) λz4=>.ob (bk2 (z4.1,(w1 y2.2.1,())))<|.ok)) (.lf G8 ((-1:Int),()))) ?_;refine Af ?_ λ_=>(An ?_ λ(y2:Sc_×Int×PUnit) i2=>Ab (λh3=>Af trivial λ_=>(Ab (λh4=>lfY ?_) (λh4=>Af ?_ λ_=>(Aa ?_ λ_=>trivial)))) (λh3=>lfY ?_))
 all_goals
  have q1:=(show okL 1100 l from hp);try simp only[CQ,fCopyLoader,Co,Dk,G8,std,Nat.reduceAdd] at *
 all_goals first|trivial|exact ZL q1|exact⟨o_,o_,q1⟩|skip
 all_goals obtain⟨a1,a2,a3,a4⟩:=i2
 all_goals first|exact N4 a4|(rw[show 1001-y2.2.1.toNat=0 from o_] at a3;exact a3)|skip
 all_goals rw[show 1001-y2.2.1.toNat=1000-y2.2.1.toNat+1 from o_] at a3
 all_goals first|(rw[YW ‹_›] at a3;exact a3)|skip
 all_goals rw[Acn ‹_›] at a3
 all_goals rw[Ag o_,show(y2.2.1+1).toNat=y2.2.1.toNat+1 from o_]
 all_goals rw[show 1100-y2.2.1.toNat=1100-(y2.2.1.toNat+1)+1 from o_] at a4
 all_goals exact⟨⟨o_,o_,(show stf (1001-(y2.2.1.toNat+1)) _ _=_ by rw[show 1001-(y2.2.1.toNat+1)=1000-y2.2.1.toNat from o_];exact a3),VY a4 _⟩,o_⟩)
abbrev CO (l:Sc_):LInv:=⟨[⟨.b,1,false,.el .loader⟩,⟨.s,3,true,.el .int⟩],λ_ (x_:Sc_×Int×Unit)=>0<=x_.2.1/\x_.2.1<=1001/\stf (1001-x_.2.1.toNat) x_.2.1 x_.1=stf 1001 0 l/\okL (1100-x_.2.1.toNat) x_.1,λ(x_:Sc_×Int×Unit)=>1001-x_.2.1.toNat⟩
def Al2:=Ami.a G8<|Fct.p (KP [1,2,3,4,5] [7,11,19]) (λ⟨l,_⟩=>lv [(2,CO l)]) Ami.2 func32 (by
 rintro⟨(l:Sc_),_⟩ hp;refine ho (lpx (CO l) (l,((0:Int),())) λ(y1:Sc_×Int×PUnit) bk1=>.br (decide (y1.2.1<=1000)) (.cl Co (y1.1,()) λz2=>.br (z2.1) (.lf G8 (y1.2.1,())) (.cl Dk (y1.1,(0:Int),()) λz3=>.br (!z3.2.1) (.lf G8 ((-1:Int),())) (.ob (bk1 (z3.1,(w1 y1.2.1,())))<|.ok))) (.lf G8 ((-1:Int),()))) ?_;refine An ?_ λ(y1:Sc_×Int×PUnit) i1=>Ab (λh2=>Af trivial λ_=>(Ab (λh3=>lfY ?_) (λh3=>Af ?_ λ_=>(Ab (λh5=>lfY ?_) (λh5=>Aa ?_ λ_=>trivial))))) (λh2=>lfY ?_)
 all_goals
  have q1:=(show okL 1100 l from hp);try simp only[CO,Co,Dk,G8,std,Nat.reduceAdd] at *
 all_goals first|trivial|exact⟨o_,o_,q1⟩|skip
 all_goals obtain⟨a1,a2,a3,a4⟩:=i1
 all_goals first|exact N4 a4|(rw[show 1001-y1.2.1.toNat=0 from o_] at a3;exact a3)|skip
 all_goals rw[show 1001-y1.2.1.toNat=1000-y1.2.1.toNat+1 from o_] at a3
 all_goals first|(rw[YW ‹_›] at a3;exact a3)|(rw[Vd ‹_› ‹_›] at a3;exact a3)|skip
 all_goals rw[Acn ‹_›] at a3
 all_goals rw[Ag o_,show(y1.2.1+1).toNat=y1.2.1.toNat+1 from o_]
 all_goals rw[show 1100-y1.2.1.toNat=1100-(y1.2.1.toNat+1)+1 from o_] at a4
 all_goals exact⟨⟨o_,o_,(show stf (1001-(y1.2.1.toNat+1)) _ _=_ by rw[show 1001-(y1.2.1.toNat+1)=1000-y1.2.1.toNat from o_];exact a3),VY a4 _⟩,o_⟩)
def wS (l:Sc_):Nat:=szL CD l.conns+szL BP l.guesses
theorem AcN (l:List Sm_) (a:Sb_):szL BP (useGuess l a).1=szL BP l:=by
 unfold useGuess;split
 ·rfl
 ·have key:∀ (m:List Sm_) (i:Nat),szL BP (m.modify i λg=>{ g with used:=true })=szL BP m:=by
   intro m
   induction m with
   | nil=>intro i;cases i<;>rfl
   | cons g m ih=>
    intro i;cases i with
    | zero=>show szL BP (_::m)=_;rw[Av,Av];rfl
    | succ i=>show szL BP (g::m.modify i _)=_;rw[Av,Av,ih]
  exact key _ _
theorem TQ {G:Nat} {l:Sc_} (h:okL (G+1) l):wS (requestNext l).1<=wS l+5100000:=by
 obtain⟨⟨Q,M,R,h1,h2,h3,h4⟩,⟨k1,k2,k3⟩,⟨h6,h7,h8,h9⟩,h10⟩:=h;unfold requestNext;split
 ·exact Qd6 _ _
 ·rename_i hk;have ht:=ZJ (l:=l) k1.1 o_;split
  ·have e:=AcN l.guesses (reqTo l);unfold wS;dsimp only;omega
  ·split
   ·exact Qd6 _ _
   ·have o:=WT l.conns (reqTo l) (fetchNow l.net l.page.addr.host (reqTo l) false).2 false;have r:=Ey (t:=l.page.addr.host) (a:=reqTo l) (g:=false) (U3 h10);unfold wS;dsimp only;omega
theorem VO {G:Nat} {l:Sc_} (h:okL (G+1) l):∀ m:List Sb_,(∀ a,a∈m->szAddr a<=16)->wS (nextGuess l m).1<=wS l+5100000
 | [],_=>Qd6 _ _
 | a::m,hm=>by
  rw[nextGuess];split
  ·exact VO h m λb hb=>hm b (Qd0 _ hb)
  ·obtain⟨_,_,_,h10⟩:=h;have ha:=hm a Qe8;have o:=WT l.conns a (fetchNow l.net l.page.addr.host a true).2 true;have r:=Ey (t:=l.page.addr.host) (a:=a) (g:=true) (U3 h10);unfold wS;dsimp only;omega
theorem Zb {G:Nat} {l:Sc_} (h:okL (G+1) l):wS (guessNext l).1<=wS l+5100000:=by
 unfold guessNext;split
 ·exact Qd6 _ _
 ·refine VO h _ λa ha=>?_
  obtain⟨i,hi,he⟩:=List.mem_iff_getElem.1 ha;have:=FW (p:=l.page) hi;rw[Qb1,Qa5 hi,he] at this;exact this
theorem Wl:∀ (n:Nat) (l:Sc_),wS (xfer n l)<=wS l
 | 0,l=>Qa7 _
 | n+1,l=>by
  rw[xfer];split
  ·exact Qa7 _
  ·have hd:=D8 l.conns 0 o_;exact Qd8 (Wl n _) (Agt o_ o_)
theorem KY (l:Sc_) (b:Int):wS (transfer l b).1<=wS l:=by
 unfold transfer;split
 ·exact Qa7 _
 ·refine Qd8 (Wl _ _) ?_;have:=Afr l.conns b;unfold wS moved;dsimp only;omega
theorem Agm {G:Nat} {l:Sc_} (h:okL (G+1) l) (n:Int):wS (actOf l n).1<=wS l+5100000:=by
 unfold actOf;split
 ·unfold arrivePart;split
  ·exact Qd6 _ _
  ·exact Qd6 _ _
 ·split
  ·exact TQ h
  ·split
   ·exact Zb h
   ·split
    ·exact Qd8 (KY l 20) (Qd6 _ _)
    ·exact Qd8 (KY l 200) (Qd6 _ _)
theorem VR {G:Nat} {l:Sc_} (h:okL (G+1) l) (c:Int):∀ n,wS (stepR l c n).1<=wS l+5100000
 | 0=>Qd6 _ _
 | n+1=>by
  rw[stepR];split
  ·exact Agm h _
  ·exact VR h c n
def okW (G:Nat) (l:Sc_):Prop:=okL G l/\wS l+5100000*G<=10000000000
theorem AcB {G:Nat} {l:Sc_} (h:okW (G+1) l) (c:Int):okW G (stepLoad l c).1:=by
 have:=VR h.1 c 5;have h2:=h.2;exact⟨VY h.1 c,by unfold stepLoad;omega⟩
theorem Acl:∀ (cs:List Int) (G:Nat) (l:Sc_),okW (G+cs.length) l->okW G (cs.foldl stepTo l)
 | [],G,l,h=>h
 | c::cs,G,l,h=>by rw[List.foldl_cons];refine Acl cs G _ (AcB (G:=G+cs.length) ?_ c);rw[Qa6] at h;exact h
theorem Si {G H:Nat} {l:Sc_} (h:okW H l) (hle:G<=H):okW G l:=⟨AgI h.1 hle,by have:=h.2;omega⟩
theorem Acy:∀ (n:Nat) (l:Sc_),okW n l->okW 0 (runB n l)
 | 0,l,h=>h
 | n+1,l,h=>by
  rw[runB];split
  ·exact Si h o_
  ·split
   ·exact Acy n _ (AcB h 0)
   ·exact Si h o_
theorem Ahv {l:Sc_} (h:okW 1100 l) (cs:List Int):okW 0 (runLoad l cs):=by
 unfold runLoad;refine Acy 1000 _ (Acl _ _ _ (Si h ?_));rw[Qc2];omega
theorem Aga {l:Sc_} (h:okW 0 l):Dm l<=1125899906842624/\szNet l.net<=8000000000/\szPage l.page<=1000000000000:=by
 obtain⟨hl,hw⟩:=h;obtain⟨⟨Q,M,R,h1,h2,h3,h4⟩,⟨k1,k2,k3⟩,⟨h6,h7,h8,h9⟩,h10⟩:=hl;have hp:=HY h1 o_ o_ o_;have hn:=(U3 h10).1;refine⟨?_,hn,hp⟩;unfold wS at hw;unfold Dm;omega
theorem Ab9 {l:Sc_} (h:Dm l<=1048576) (b1 : -9223372036854775808<=l.page.block) (b2:l.page.block<=9223372036854775807):okW 1100 l:=by
 refine Si (H:=1200) ⟨AgQ h b1 b2,?_⟩ o_;unfold Dm at h;unfold wS;omega
theorem Ad8 (l:Sc_) (cs:List Int) (b1 : -9223372036854775808<=l.page.block) (b2:l.page.block<=9223372036854775807) (h:Dm l<=1048576):okL 1100 l/\Dm (runLoad l cs)<=1125899906842624:=⟨(Ab9 h b1 b2).1,(Aga (Ahv (Ab9 h b1 b2) cs)).1⟩
theorem k6_410:lLoader1.ok Tryz.prog 6:=Fct.o (KP [1,2,3,4,5,6] [11,21,26]) Al2.2 func6 (by
 rintro⟨(l:Sc_),_⟩ hp;refine ho (.cl KZ (l,(1048576:Int),()) λ(z2:Int×PUnit)=>.br (decide (z2.1<0)) (.leaf (mkR lLoader1.rs (true,())) [] []) (.cl Hz (l,()) λz3=>.cl G8 (z3.1,()) λ(z4:Int×PUnit)=>.cl Hz (l,()) λz5=>.cl G8 (z5.1,()) λ(z6:Int×PUnit)=>.br (z6.1 != z4.1) (.leaf (mkR lLoader1.rs (false,())) [] []) (.cl Hz (l,()) λz7=>.cl L7 (z5.1,z7.1,()) λz8=>.br (!z8.1) (.leaf (mkR lLoader1.rs (false,())) [] []) (.leaf (mkR lLoader1.rs (true,())) [] [])))) ?_;refine FM ?_ λo1 z2 ez2=>(Ab (λh2=>Fct.leafY ?_) (λh2=>FM ?_ λo3 z3 ez3=>(FM ?_ λo4 z4 ez4=>(FM ?_ λo5 z5 ez5=>(FM ?_ λo6 z6 ez6=>(Ab (λh7=>Fct.leafY ?_) (λh7=>FM ?_ λo8 z7 ez7=>(FM ?_ λo9 z8 ez8=>(Ab (λh10=>Fct.leafY ?_) (λh10=>Fct.leafY ?_))))))))))
 all_goals
  have hlw:=λa b=>(Ad8 l [] a b)
  have hg0:Sh.good (.el .loader) l:=hp.1;have hI0:=AhJ (l.page.block) hg0 (by simp[enc]);clear hp
 all_goals subst_vars
 all_goals
  try simp only[Hd] at *
  try simp only[G8,L7,KZ,Hz,lLoader1,std,Nat.reduceAdd,szF,toF,eqF,mkF,heF,decide_true] at *
 all_goals first|trivial|omega|grind[lessen])
def Anr:=Al2.a lLoader1 k6_410
section
open Go.ChangeShapes Go.WideShapes Go.ChangeAt Go.RowKit
theorem rfB:(Tryz.f6.params.toList.all λt=>Tryz.prog.readableRec t&&decide (t<Tryz.prog.types.size))=true:=by kernel_rfl
theorem rfC:ML Tryz.prog tyOf Tryz.f6.params.toList [.el .loader]=true:=by kernel_rfl
theorem rfD:Ala Tryz.prog tyOf [3,4,5,9,25,28,30,37,40,41,44,46,50,55,68,69,73,78,82,87,144,148,150,158,162,170,174,177,191,193,196,208,211,221,234,243,246,248,252,256,259,268,298,319,366,451,458,482]=true:=by kernel_rfl
theorem rowFacts:Adb Tryz.prog Tryz.f6 tyOf [3,4,5,9,25,28,30,37,40,41,44,46,50,55,68,69,73,78,82,87,144,148,150,158,162,170,174,177,191,193,196,208,211,221,234,243,246,248,252,256,259,268,298,319,366,451,458,482] [.el .loader]=true:=by unfold Adb;rw[rfA,rfB,rfC,rfD];rfl
end
end Go.Proofs.YtmeicddakaciiaaGreatDoor.fnExactStepsToFinish
