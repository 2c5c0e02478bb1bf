/-
  Contracts of functions that the law of FnThrifty reaches, part 3.
-/
import Derived.Test.YthpiiodbmkjmjaaGreatDoorVPThrifty2
namespace Go.Proofs.YthpiiodbmkjmjaaGreatDoor.fnThrifty
open Go.Proofs.YthpiiodbmkjmjaaGreatDoor
open Go.D Go.Proofs.Tryz
set_option maxRecDepth 100000
set_option maxHeartbeats 2000000
set_option linter.defProp false
set_option linter.unusedVariables false
set_option linter.unusedSimpArgs false
def Ak2:=AmB.a GY<|Fct.p (KP [1,2,3,4] [10,19]) (λ⟨p,_⟩=>lv [(3,D0 p)]) AmB.2 func153 (by
 rintro⟨(p:C_),_⟩ hp;refine ho (lpx (D0 p) ([],((0:Int),(p,()))) λ(y1:bY) bk1=>.br (decide (y1.2.1<(y1.2.2.1.bh.length:Int))) (.ob (inB y1.2.1 y1.2.2.1.bh.length)<|.br (!(y1.2.2.1.bh.getD y1.2.1.toNat default).done) (.ap (y1.1.length+[y1.2.1].length) 8<|.bk (bk1 (y1.1++[y1.2.1],(w1 y1.2.1,(y1.2.2.1,()))))) (.bk (bk1 (y1.1,(w1 y1.2.1,(y1.2.2.1,())))))) (.lf GY (y1.1,()))) ?_;refine Am ?_ λ(y1:bY) i1=>Aa (λh2=>Ab ?_ λ_=>Aa (λh4=>Ed ?_ λ_=>AR ?_) λh4=>AR ?_) (λh2=>lfY ?_)<;>(have h0:openIdx (λm:Y_=>!m.done) (p.bh.drop 0) 0=openMods p:=rfl;try simp only[std,Nat.reduceAdd,ae,X_,al,aw,aJ,bB] at *)<;>(try simp(disch:=omega) only[FS,A_] at *)<;>(try simp(disch:=omega) only[I_,J_])<;>(first|trivial|omega|grind[FS,A_,HO,G_,F_,maxLen,ae,X_,List.length_append,List.length_cons,List.length_nil,List.append_assoc]))
abbrev DW (p:C_):LInv:=⟨[⟨.s,3,true,.sl .int⟩,⟨.s,10,true,.el .int⟩],λ_ (x:an)=>0<=x.2.1/\x.2.1<=p.bh.length/\x.1.length<=x.2.1/\x.1++openIdx (λm=>!m.done) (p.bh.drop x.2.1.toNat) x.2.1=openMods p,λ(x:an)=>p.bh.length-x.2.1.toNat⟩
def AnL:=Ak2.a GY<|Fct.p (KP [1,2,3,4,5,8,9,10] [11,17]) (λ⟨p,_⟩=>lv [(3,DW p)]) Ak2.2 func122 (by
 rintro⟨(p:C_),_⟩ hp;refine ho (lpx (DW p) ([],((0:Int),())) λ(y1:an) bk1=>.br (decide (y1.2.1<(p.bh.length:Int))) (.ob (inB y1.2.1 p.bh.length)<|.br (!(p.bh.getD y1.2.1.toNat default).done) (.ap (y1.1.length+[y1.2.1].length) 8<|.re (p.bh)<|.re (Value.int IntKind.i64 (p.bh.length:Int))<|.bk (bk1 (y1.1++[y1.2.1],(w1 y1.2.1,())))) (.re (p.bh)<|.re (Value.int IntKind.i64 (p.bh.length:Int))<|.bk (bk1 (y1.1,(w1 y1.2.1,()))))) (.lf GY (y1.1,()))) ?_;refine Am ?_ λ(y1:an) i1=>Aa (λh2=>Ab ?_ λ_=>Aa (λh4=>Ed ?_ λ_=>Ai<|Ai<|AR ?_) λh4=>Ai<|Ai<|AR ?_) (λh2=>lfY ?_)<;>(have h0:openIdx (λm:Y_=>!m.done) (p.bh.drop 0) 0=openMods p:=rfl;try simp only[std,Nat.reduceAdd,ae,X_,al,aw,aJ,bB] at *)<;>(try simp(disch:=omega) only[FS,A_] at *)<;>(try simp(disch:=omega) only[I_,J_])<;>(first|trivial|omega|grind[FS,A_,HO,G_,F_,maxLen,ae,X_,List.length_append,List.length_cons,List.length_nil,List.append_assoc]))
def allowsInline (p:aN) (n:ByteArray):Bool:=!p.set_||(!decide (p.nonce=⟨#[]⟩)&&decide (p.nonce=n))
abbrev Cf:Fct:=⟨[.v (.el .bj),.v (.el .str)],[.el .bool],λ(x:gn)=>True,λ(x:gn)=>(allowsInline x.1 x.2.1,())⟩
theorem q20 (p:aN) (n:ByteArray) (hp:Cf.pre (p,n,())):Out.holds (Cf.ctr (p,n,())).post (.br (!p.set_) (.lf Cf (true,())) (.br (!p.nonce.toList==(⟨#[]⟩:ByteArray).toList) (.lf Cf (p.nonce.toList==ByteArray.toList n,())) (.lf Cf (false,())))):=hz ((@allowsInline.eq_1))
def AjE:=AnL.a Cf<|Fct.o [1,2,4] AnL.2 func399 (by
 rintro⟨(p:aN),(n:ByteArray),_⟩ hp;exact ho _ (q20 p n hp))
def Alc:=AjE.a Cf<|Fct.o [1,2,4] AjE.2 func381 (by
 rintro⟨(p:aN),(n:ByteArray),_⟩ hp;exact ho _ (q20 p n hp))
def isVoid (n:ByteArray):Bool:=decide (n=⟨#[105,109,103]⟩)||decide (n=⟨#[108,105,110,107]⟩)
abbrev Jf:Fct:=⟨[.v (.el .str)],[.el .bool],λ(x:K_)=>True,λ(x:K_)=>(isVoid x.1,())⟩
def AnB:=Alc.a Jf<|Fct.o [0,2] Alc.2 func397 (by
 rintro⟨(n:ByteArray),_⟩ hp;exact hg (.br (ByteArray.toList n==(⟨#[105,109,103]⟩:ByteArray).toList) (.lf Jf (true,())) (.lf Jf (ByteArray.toList n==(⟨#[108,105,110,107]⟩:ByteArray).toList,()))) (@isVoid.eq_1))
def AnI:=AnB.a Jf<|Fct.o [0,2] AnB.2 func379 (by
 rintro⟨(n:ByteArray),_⟩ hp;exact hg (.br (ByteArray.toList n==(⟨#[105,109,103]⟩:ByteArray).toList) (.lf Jf (true,())) (.lf Jf (ByteArray.toList n==(⟨#[108,105,110,107]⟩:ByteArray).toList,()))) (@isVoid.eq_1))
def sheetsOf (l:List ay):List bu:=(l.filter λs=>decide (s.mode=2)&&(s.done&&decide (s.code=1))).map λs=>parseSheet s.body
theorem bt {l:List ay} {i:Nat} (h:i<l.length):sheetsOf (l.drop i)=if(l.getD i default).mode=2/\(l.getD i default).done=true/\(l.getD i default).code=1 then parseSheet (l.getD i default).body::sheetsOf (l.drop (i+1)) else sheetsOf (l.drop (i+1)):=by
 rw[HO h];unfold sheetsOf;grind
theorem bG {l:List ay} {i:Nat} (h:l.length<=i):sheetsOf (l.drop i)=[]:=by rw[bR h];rfl
def okBod (p:C_):Prop:=∀ i,i<p.bf.length->(p.bf.getD i default).body.size<=4200000000
abbrev HD:Fct:=⟨[.v (.el .page)],[.sl .sheet],λ(x:ak)=>szL AO x.1.bf<=1000000000000/\okBod x.1,λ(x:ak)=>(sheetsOf x.1.bf,())⟩
abbrev D1 (p:C_):LInv:=⟨[⟨.s,3,true,.sl .sheet⟩,⟨.s,4,true,.el .int⟩,⟨.b,1,false,.el .page⟩],λ(z x:eY)=>(0<=x.2.1/\x.2.1<=p.bf.length/\x.1.length<=x.2.1/\x.1++sheetsOf (p.bf.drop x.2.1.toNat)=sheetsOf p.bf)/\x.2.2.1=z.2.2.1,λ(x:eY)=>p.bf.length-x.2.1.toNat⟩
def AmM:=AnI.a HD<|Fct.p (KP [1,2,3,4,5] [11,30]) (λ⟨p,_⟩=>lv [(3,D1 p)]) AnI.2 func343 (by
 rintro⟨(p:C_),_⟩ hp;refine ho (lpx (D1 p) ([],((0:Int),(p,()))) λ(y1:eY) bk1=>let H_:Out:=.bk (bk1 (y1.1,(w1 y1.2.1,(y1.2.2.1,()))));let E_:=y1.2.2.1.bf.getD y1.2.1.toNat default;.br (decide (y1.2.1<(y1.2.2.1.bf.length:Int))) (.ob (inB y1.2.1 y1.2.2.1.bf.length)<|.br (E_.mode==2) (.br (E_.done) (.br (E_.code==1) (.cl GC (E_.body,()) λz2=>.ob (IA (y1.1.length+[z2.1].length) 24)<|.bk (bk1 (y1.1++[z2.1],(w1 y1.2.1,(y1.2.2.1,()))))) H_) H_) H_) (.lf HD (y1.1,()))) ?_;refine Am ?_ λ(y1:eY) i1=>Aa (λh2=>Ab ?_ λ_=>Aa (λh4=>Aa (λh5=>Aa (λh6=>Ae ?_ λ_=>Ab ?_ λ_=>AR ?_) λh6=>AR ?_) λh5=>AR ?_) λh4=>AR ?_) (λh2=>lfY ?_)<;>(have h0:sheetsOf (p.bf.drop 0)=sheetsOf p.bf:=rfl;have hl:=Ac AO p.bf;have hg:∀ i,i<p.bf.length->(p.bf.getD i default).body.size<=4200000000:=hp.2;have hg2:szL AO p.bf<=1000000000000:=hp.1;clear hp;try simp only[std,Nat.reduceAdd,bt,bG,al,aw,aJ,bB] at *)<;>(try simp(disch:=omega) only[FS,A_] at *)<;>(try simp(disch:=omega) only[I_,J_])<;>(first|trivial|omega|grind[FS,A_,HO,G_,F_,maxLen,bt,bG,List.length_append,List.length_cons,List.length_nil,List.append_assoc]))
def YN {w:ByteArray} {r:dw} (h:ruleOf w=some r):r.name.size<=w.size/\1<=r.color/\r.color<=999:=by
 unfold ruleOf at h;split at h
 ·cases h
 ·rename_i q hq;split at h
  ·rename_i hc;have:=OL (p:=q.1) (q:=q.2) hq;obtain rfl:=Option.some.inj h;rw[Br] at this;exact⟨by rw[HW];omega,hc.2.2⟩
  ·cases h
def Hh:∀ (l:List ByteArray) (acc:List dw),szL OE (parseRules l acc)<=szL OE acc+szL Af l/\∀ r,r∈parseRules l acc->r∈acc\/1<=r.color/\r.color<=999
 | [],acc=>⟨by rw[parseRules];omega,λr h=>.inl h⟩
 | w::l,acc=>by
  rw[parseRules,Ag];by_cases hc:acc.length<8
  ·rw[I_ hc];cases hr:ruleOf w with
   | none=>
    obtain⟨i1,i2⟩:=Hh l acc;grind
   | some x=>
    obtain⟨i1,i2⟩:=Hh l (acc++[x]);have hx:=YN hr;rw[Option.toList_some];rw[Ek] at i1;refine⟨by simp only[OE,Af] at *;omega,λr h=>?_⟩;grind
  ·rw[J_ hc];obtain⟨i1,i2⟩:=Hh l acc;exact⟨o_,i2⟩
def Rr (s:ByteArray):DJ (parseSheet s)<=s.size+1/\∀ r,r∈(parseSheet s).rules->1<=r.color/\r.color<=999:=by
 obtain⟨h1,h2⟩:=Hh (spl 59 s) [];rw[OO] at h1;have h0:szL OE []=0:=rfl;exact⟨by simp only[DJ,parseSheet];omega,λr h=>(h2 r h).elim (λh=>by cases h) id⟩
def Gn:∀ (l:List ay),szL DJ (sheetsOf l)<=2*szL AO l/\okSheets (sheetsOf l)
 | []=>⟨Nat.zero_le _,λs h=>by cases h⟩
 | x::l=>by
  obtain⟨i1,i2⟩:=Gn l;have e:=bt (l:=x::l) (i:=0) (by simp);rw[dt] at e;rw[e,Ag];split
  ·have hp:=Rr x.body;refine⟨?_,λs h=>?_⟩
   ·rw[Ag];simp only[AO] at *;show DJ (parseSheet x.body)+1+szL DJ (sheetsOf l)<=_;omega
   ·rcases cp.1 h with rfl|h
    ·grind
    ·exact i2 s h
  ·grind
def Pb (s:ByteArray):∀ (l:List ByteArray) (k:Int),(line8L s l k).2=true->(line8L s l k).1.text.size<=60
 | [],k,h=>by cases h
 | w::l,k,h=>by
  rw[line8L] at h ⊢;split
  ·rename_i hc;rw[I_ hc] at h;dsimp only at h ⊢;split at h
   ·simp_all
   ·have:=Bx h;omega
  ·rename_i hc;rw[J_ hc] at h;exact Pb s l _ h
def GM (s:ByteArray):szL CH (parseScript s).1<=366/\(parseScript s).1.length<=6:=by
 unfold parseScript;split
 ·exact⟨by decide,by decide⟩
 ·split
  ·rename_i hc;have hs:∀ l:List ByteArray,allOk8 l=true->szL CH (lines8 l)<=61*l.length:=by
    intro l
    induction l with
    | nil=>intro _;decide
    | cons w l ih=>
     intro h;simp only[allOk8,List.all_cons,Z_] at h;have:=ih h.2;have h2:=Pb w _ _ h.1;show szL CH ((line8 w).1::lines8 l)<=_;rw[Ag];simp only[CH,aw,line8] at *;omega
   have:=hs _ hc.2;exact⟨by dsimp only;omega,by dsimp only;rw[lines8,eh];exact hc.1⟩
  ·exact⟨by decide,by decide⟩
def Cr {α:Type} (f:α->Nat):∀ (l m:List α),szL f (l++m)=szL f l+szL f m
 | [],m=>by show szL f m=0+szL f m;omega
 | x::l,m=>by rw[dp,Ag,Ag,Cr f l m];omega
def addLog:List ByteArray->List ByteArray->List ByteArray
 | g,[]=>g
 | g,x::l=>if g.length<40 then addLog (g++[x]) l else g
def SX {l g:List ByteArray} {i:Nat} (h:i<l.length):addLog g (l.drop i)=if g.length<40 then addLog (g++[l.getD i default]) (l.drop (i+1)) else g:=by rw[HO h];rfl
def Qn {l g:List ByteArray} {i:Nat} (h:l.length<=i):addLog g (l.drop i)=g:=by rw[bR h];cases g<;>rfl
def I2 {l g:List ByteArray} (h:¬ g.length<40):addLog g l=g:=by
 cases l with
 | nil=>cases g<;>rfl
 | cons x l=>rw[addLog,J_ h]
def Iq (g:List ByteArray):addLog g []=g:=by cases g<;>rfl
def rsOf (p:C_) (c:ByteArray):af×ByteArray×List ByteArray:=runScript p.ba (sheetsOf p.bf) (parseScript c).1
def runCode (p:C_) (c:ByteArray) (w:Bool):C_ :=
 if(parseScript c).2=true then{ p with ba:=(rsOf p c).1,bn:=if w=true then tokensOf (rsOf p c).2.1++p.bn else p.bn,log:=addLog p.log (rsOf p c).2.2 }
 else{ p with log:=addLog p.log [⟨#[101,114,114,111,114]⟩]}
def IW (l:List bu):∀ (r:List bI) (b:af) (w:ByteArray) (g:List ByteArray),szBuilder (runLines l r b w g).1<=szBuilder b+szL CH r/\(runLines l r b w g).2.1.size<=w.size+szL CH r/\(runLines l r b w g).2.2.length<=g.length+r.length
 | [],b,w,g=>⟨cw _ _,cw _ _,cw _ _⟩
 | x::r,b,w,g=>by
  have h:=LZ b l x;have i1:=IW l r (runLine b l x).1 (w++(runLine b l x).2.1) (if(runLine b l x).2.2=⟨#[]⟩ then g else g++[(runLine b l x).2.2]);rw[runLines,Ag];have hg:(if(runLine b l x).2.2=⟨#[]⟩ then g else g++[(runLine b l x).2.2]).length<=g.length+1:=by split<;>simp
  rw[aQ] at i1;simp only[aw,CH] at *
  omega
def ZU (p:C_) (c:ByteArray):szBuilder (rsOf p c).1<=szBuilder p.ba+366/\(rsOf p c).2.1.size<=366/\(rsOf p c).2.2.length<=6:=by
 have h1:=IW (sheetsOf p.bf) (parseScript c).1 p.ba ⟨#[]⟩ [];have h2:=GM c;have h0:ByteArray.size ⟨#[]⟩=0:=rfl;simp only[rsOf,runScript,aJ] at *
 omega
def IM (s:ByteArray):szL szToken (tokensOf s)<=s.size+2/\(tokensOf s).length<=s.size+2:=by
 have h1:=MM s;have h2:=PE (feedAll s).2;have h3:szL szToken (tokensOf s)<=s.size+2:=by unfold tokensOf;rw[Cr];omega
 exact⟨h3,bT (Ac _ _) h3⟩
abbrev DM:Fct:=⟨[.v (.el .page),.v (.el .str),.v (.el .bool)],[.el .page],λ(x:gp)=>Aj x.1<=1000000000000/\szBuilder x.1.ba<=40000000000/\szL AO x.1.bf<=40000000000/\x.2.1.size<=4200000000/\okBod x.1,λ(x:gp)=>(runCode x.1 x.2.1 x.2.2.1,())⟩
abbrev Er (p:C_) (c:ByteArray) (w:Bool):LInv:=⟨[⟨.b,7,true,.el .page⟩,⟨.s,13,true,.el .int⟩,⟨.b,6,true,.el .page⟩,⟨.s,12,true,.sl .str⟩],λ(z x:eZ)=>((0<=x.2.1/\x.2.1<=(rsOf p c).2.2.length/\x.1={ p with ba:=(rsOf p c).1,log:=x.1.log }/\addLog x.1.log ((rsOf p c).2.2.drop x.2.1.toNat)=addLog p.log (rsOf p c).2.2/\x.1.log.length<=p.log.length+x.2.1)/\x.2.2.1=z.2.2.1)/\x.2.2.2.1=z.2.2.2.1,λ(x:eZ)=>(rsOf p c).2.2.length-x.2.1.toNat⟩
def AkW:=AmM.a DM<|Fct.p (KP [1,2,3,6,7,8,9,10,11,12,13] [22,26,54,66]) (λ⟨p,c,w,_⟩=>lv [(10,Er p c w)]) AmM.2 func246 (by
 rintro⟨(p:C_),(c:ByteArray),(w:Bool),_⟩ hp;refine ho (.cl AA (p,()) λz2=>.cl Be (c,()) λz3=>.br (!z3.2.1) (.br (decide ((z2.1.log.length:Int)<40)) (.ap (z2.1.log.length+1) 16<|.lf DM ({z2.1 with log:=z2.1.log++[(⟨#[101,114,114,111,114]⟩:ByteArray)]},())) (.lf DM (z2.1,()))) (.cl HD (p,()) λz4=>.cl Gu (p.ba,z4.1,z3.1,()) λz5=>lpx (Er p c w) (({z2.1 with ba:=z5.1}:C_),((0:Int),(default,(z5.2.2.1,())))) λ(y8:eZ) bk8=>let E_:Out:=.br (w) (.cl HM (z5.2.1,()) λz6=>.ob (IA (z6.1.length+y8.1.bn.length) 64)<|.lf DM ({y8.1 with bn:=z6.1++y8.1.bn},())) (.lf DM (y8.1,()));.br (decide (y8.2.1<(y8.2.2.2.1.length:Int))) (.br (decide ((y8.1.log.length:Int)<40)) (.ix y8.2.1 y8.2.2.2.1.length<|.ap (y8.1.log.length+[y8.2.2.2.1.getD y8.2.1.toNat default].length) 16<|.re (Value.string c)<|.re (Value.bool w)<|.re (Value.bool z3.2.1)<|.re (Value.string z5.2.1)<|.bk (bk8 (({y8.1 with log:=y8.1.log++[y8.2.2.2.1.getD y8.2.1.toNat default]}:C_),(w1 y8.2.1,(y8.2.2.1,(y8.2.2.2.1,())))))) E_) E_)) ?_;refine Ae ?_ λ_=>(Ae ?_ λ_=>Aa (λh3=>Aa (λh4=>Ed ?_ λ_=>lfY ?_) λh4=>lfY ?_) λh3=>Ae ?_ λ_=>Ae ?_ λ_=>Am ?_ λ(y8:eZ) i8=>Aa (λh9=>Aa (λh10=>Ei ?_ λo11 o12=>Ed ?_ λ_=>Ai<|Ai<|Ai<|Ai<|AR ?_) λh10=>Aa (λh15=>Ae ?_ λ_=>Ab ?_ λ_=>lfY ?_) λh15=>lfY ?_) λh9=>Aa (λh18=>Ae ?_ λ_=>Ab ?_ λ_=>lfY ?_) λh18=>lfY ?_)<;>(have hz:=ZU p c;have hs:=GM c;have hk:=Gn p.bf;have hq:szL szToken p.bn+szBuilder p.ba+szL AO p.bf+szL Af p.log<=Aj p:=by simp only[Aj];omega)<;>(have hq1:=Ac szToken p.bn;have hq2:=Ac Af p.log)<;>obtain⟨hp1,hp2,hp3,hp4,hp5⟩:=(show Aj p<=1000000000000/\szBuilder p.ba<=40000000000/\szL AO p.bf<=40000000000/\c.size<=4200000000/\okBod p from hp)<;>(have hrs:runScript p.ba (sheetsOf p.bf) (parseScript c).1=rsOf p c:=rfl;try simp only[Kj] at *)<;>(try simp only[std,Nat.reduceAdd,hrs] at *)<;>(first|trivial|omega|exact⟨o_,hp5⟩|exact⟨o_,o_,o_,hk.2⟩|exact⟨o_,o_,rfl,rfl,o_⟩|skip)<;>(first|(unfold runCode;rw[J_ (by rw[show Prod.snd _=false from ‹_›];decide)];first|rw[addLog,I_ o_,Iq]|(rw[I2 o_]))|skip)<;>(obtain⟨⟨⟨a1,a2,a3,a4,a5⟩,a6⟩,a7⟩:=i8;obtain⟨q,i,d,lg,u⟩:=y8;try dsimp only at *;generalize q.log=L at *;subst a3;subst a7;try dsimp only at *)<;>(first|trivial|omega|(have:=IM (rsOf p c).2.1;simp only[IA];omega)|(have:=IM (rsOf p c).2.1;omega)|skip)<;>(first|(rw[Qn o_] at a4;unfold runCode;rw[I_ ‹_›,<-a4];first|rw[I_ ‹_›]|(rw[J_ (by rw[show w=false from ‹_›];decide)]))|(rw[I2 o_] at a4;unfold runCode;rw[I_ ‹_›,<-a4];first|rw[I_ ‹_›]|(rw[J_ (by rw[show w=false from ‹_›];decide)]))|skip)<;>(rw[SX o_,I_ o_] at a4;rw[Ah o_,show(i+1).toNat=i.toNat+1 from o_])<;>exact⟨⟨⟨⟨o_,o_,rfl,a4,by rw[al];simp only[aw,aJ];omega⟩,a6⟩,rfl⟩,o_⟩)
def closeN (b:af) (n:ByteArray):Nat->List Int
 | 0=>b.bl
 | 1=>b.bl
 | m+2=>if 0<=b.bl.getD (m+1) default/\b.bl.getD (m+1) default<b.bi.length/\(b.bi.getD (b.bl.getD (m+1) default).toNat default).name=n then b.bl.take (m+1) else closeN b n (m+1)
def SG {b:af} {n:ByteArray} {i:Int} (h:1<=i):closeN b n (i+1).toNat=if 0<=b.bl.getD i.toNat default/\b.bl.getD i.toNat default<b.bi.length/\(b.bi.getD (b.bl.getD i.toNat default).toNat default).name=n then b.bl.take i.toNat else closeN b n i.toNat:=by
 obtain⟨m,rfl⟩:∃ m:Nat,i=m+1:=⟨(i-1).toNat,o_⟩;rfl
def PN {b:af} {n:ByteArray} {i:Int} (h:i<=0):closeN b n (i+1).toNat=b.bl:=by
 have h2:(i+1).toNat=0\/(i+1).toNat=1:=o_
 rcases h2 with h2|h2<;>rw[h2]<;>rfl
def closeB (b:af) (n:ByteArray):af:=⟨b.bi,closeN b n b.bl.length⟩
abbrev Qg:GS:=⟨[.g (.el .ba),.l (.v (.el .str))],[.el .ba],λ(x:eW)=>szBuilder x.1<=1000000000000,λ(x:eW)=>((closeB x.1 x.2.1,()),(()))⟩
abbrev F1 (b:af) (n:ByteArray):LInv:=⟨[⟨.s,5,true,.el .int⟩,⟨.b,2,true,.el .ba⟩,⟨.b,4,true,.el .ba⟩],λ_ (x:e6)=>x.2.1=b/\-1<=x.1/\x.1<b.bl.length/\closeN b n (x.1+1).toNat=closeN b n b.bl.length,λ(x:e6)=>(x.1+1).toNat⟩
def Ajo:=AkW.G Qg<|GS.of (S:=Qg) (L:=λ⟨b,n,_⟩=>λ|2=>some (F1 b n)|_=>none) (kp:=(KP [1,2,4,5,6] [12,35])) AkW.2 func396 k_ k_ (by
 rintro⟨(b:af),(n:ByteArray),_⟩ hp;refine ho (lpx (F1 b n) (wr ((b.bl.length:Int)-(1:Int)),(b,(default,()))) λ(y1:e6) bk1=>.br (decide (y1.1>0)) (.ix y1.1 y1.2.1.bl.length<|.cl Au (y1.2.1.bl.getD y1.1.toNat default,(0:Int),wr ((y1.2.1.bi.length:Int)-(1:Int)),()) λz2=>.br (z2.1) (.ix (y1.2.1.bl.getD y1.1.toNat default) y1.2.1.bi.length<|.br ((y1.2.1.bi.getD (y1.2.1.bl.getD y1.1.toNat default).toNat default).name.toList==n.toList) (.ob (0<=y1.1/\y1.1<=(y1.2.1.bl.length:Int))<|.ob (0+(y1.1.toNat-0)<=y1.2.1.bl.length)<|GS.out Qg ((⟨y1.2.1.bi,cut y1.2.1.bl 0 (y1.1.toNat-0)⟩,()),(()))) (.re (Value.string n)<|.bk (bk1 (wr (y1.1-(1:Int)),(y1.2.1,(y1.2.2.1,())))))) (.re (Value.string n)<|.bk (bk1 (wr (y1.1-(1:Int)),(y1.2.1,(y1.2.2.1,())))))) (GS.out Qg ((y1.2.1,()),(())))) ?_;refine Am ?_ λ(y1:e6) i1=>Aa (λh2=>Ei ?_ λo3 o4=>Ae trivial λ_=>Aa (λh5=>Ei ?_ λo6 o7=>Aa (λh8=>Ab ?_ λ_=>Ab ?_ λ_=>GS.leafY ?_) λh8=>Ai<|AR ?_) λh5=>Ai<|AR ?_) (λh2=>GS.leafY ?_)<;>(have hl:b.bl.length<=1000000000000:=by have h1:szBuilder b<=1000000000000:=hp;simp only[szBuilder] at h1;omega)<;>(have hn:b.bi.length<=1000000000000:=by have h1:szBuilder b<=1000000000000:=hp;have:=Ac AM b.bi;simp only[szBuilder] at h1;omega)<;>(try simp only[std,Nat.reduceAdd,inRange,closeB] at *)<;>(try obtain⟨a0,a1,a2,a3⟩:=i1;simp only[a0] at *)<;>(try simp only[Ah (show -9223372036854775808<=(b.bl.length:Int)-1/\(b.bl.length:Int)-1<=9223372036854775807 from o_)] at *)<;>(first|trivial|omega|(rw[show((b.bl.length:Int)-1+1).toNat=b.bl.length from o_];exact⟨o_,o_,rfl⟩)|skip)<;>(try simp only[Z_,ep,aH,ca,Ah (show -9223372036854775808<=(b.bi.length:Int)-1/\(b.bi.length:Int)-1<=9223372036854775807 from o_)] at *)<;>(first|omega|(rw[PN o_] at a3;rw[<-a3])|skip)<;>rw[SG o_] at a3<;>(first|(rw[I_ (by exact⟨o_,o_,‹_›⟩)] at a3;rw[<-a3];first|rfl|simp[cut])|(rw[J_ (by rintro⟨q1,q2,q3⟩;first|omega|exact absurd q3 ‹_›)] at a3;rw[Ah o_,show(y1.1-1+1).toNat=y1.1.toNat from o_];exact⟨⟨by first|assumption|trivial,o_,o_,a3⟩,o_⟩)))
def lastOpen (b:af):Int:=b.bl.getD (b.bl.length-1) default
def addToken (b:af) (t:ao):af×Int :=
 if t.kind=2 then(closeB b t.name,-1)
 else if b.bi.length<40/\0<b.bl.length/\(t.kind=1/\isVoid t.name=false->b.bl.length<8)/\(t.kind=1\/t.kind=3/\t.text≠⟨#[]⟩) then
  (if t.kind=1 then⟨b.bi++[⟨t.name,⟨#[]⟩,lastOpen b,t.bo⟩],if isVoid t.name=true then b.bl else b.bl++[(b.bi.length:Int)]⟩ else⟨b.bi++[⟨⟨#[]⟩,t.text,lastOpen b,[]⟩],b.bl⟩,(b.bi.length:Int))
 else(b,-1)
def H6 {b:af} {t:ao} (h:t.kind=2):addToken b t=(closeB b t.name,-1):=by unfold addToken;rw[I_ h]
def N2 {b:af} {t:ao} (h:¬ t.kind=2) (h2:40<=b.bi.length\/b.bl.length=0\/(t.kind=1/\isVoid t.name=false/\8<=b.bl.length)\/(t.kind≠1/\(t.kind≠3\/t.text=⟨#[]⟩))):addToken b t=(b,-1):=by
 unfold addToken;grind
def NW {b:af} {t:ao} (h:t.kind=1) (h1:b.bi.length<40) (h2:0<b.bl.length) (h3:isVoid t.name=true\/b.bl.length<8):addToken b t=(⟨b.bi++[⟨t.name,⟨#[]⟩,lastOpen b,t.bo⟩],if isVoid t.name=true then b.bl else b.bl++[(b.bi.length:Int)]⟩,(b.bi.length:Int)):=by
 unfold addToken;grind
def ON {b:af} {t:ao} (h:t.kind=3) (h1:b.bi.length<40) (h2:0<b.bl.length) (h3:¬ t.text=⟨#[]⟩):addToken b t=(⟨b.bi++[⟨⟨#[]⟩,t.text,lastOpen b,[]⟩],b.bl⟩,(b.bi.length:Int)):=by
 unfold addToken;simp_all
def IC {b:af}:b.bl.getD ((b.bl.length:Int)-1).toNat default=lastOpen b:=by
 rw[show((b.bl.length:Int)-1).toNat=b.bl.length-1 from o_];rfl
abbrev A3:Fct:=⟨[.v (.el .ba),.v (.el .token)],[.el .ba,.el .int],λ(x:af×ao×Unit)=>szBuilder x.1<=100000000000/\szToken x.2.1<=100000000000,λ(x:af×ao×Unit)=>((addToken x.1 x.2.1).1,(addToken x.1 x.2.1).2,())⟩
def AmX:=Ajo.a A3<|Fct.o (KP [2,3,4,5,6,7,8,9] [17,47,59,70,88]) Ajo.2 func345 (by
 rintro⟨(b:af),(t:ao),_⟩ hp;refine ho (let aC:=(⟨#[]⟩:ByteArray);let bQ:=!t.text.toList==aC.toList;let aj:=(b.bl.length:Int);let Q_:=(b.bi.length:Int);let co:=decide (Q_>=40);let L_:=aj-(1:Int);let aM:=0<=wr L_/\wr L_<aj;let H_:=(⟨aC,t.text,b.bl.getD (wr L_).toNat default,[]⟩:cO);.cl Cl (b,()) λz2=>let aF:=z2.1.bl.length+[Q_].length;let bL:=IA (z2.1.bi.length+[H_].length) 64;let M_:Out:=.lf A3 (z2.1,(-1:Int),());.br (t.kind==2) (.ob (Qg.pre (z2.1,t.name,()))<|.lt _ (Qg.fn (z2.1,t.name,())) λz3=>.lf A3 (z3.1.1,(-1:Int),())) (.br (t.kind==1) (.cl Jf (t.name,()) λz4=>let E_:Out:=.ob aM<|.br (t.kind==1) (.cl Hn (t.bo,()) λz5=>let U_:=(⟨t.name,aC,b.bl.getD (wr L_).toNat default,z5.1⟩:cO);.ob (IA (z2.1.bi.length+[U_].length) 64)<|.br (!z4.1) (.ap aF 8<|.lf A3 (⟨z2.1.bi++[U_],z2.1.bl++[Q_]⟩,Q_,())) (.lf A3 (⟨z2.1.bi++[U_],z2.1.bl⟩,Q_,()))) (.br (t.kind==3) (.br bQ (.ob bL<|.br (!z4.1) (.ap aF 8<|.lf A3 (⟨z2.1.bi++[H_],z2.1.bl++[Q_]⟩,Q_,())) (.lf A3 (⟨z2.1.bi++[H_],z2.1.bl⟩,Q_,()))) M_) M_);.br co M_ (.br (aj==0) M_ (.br (!z4.1) (.br (decide (aj>=8)) M_ E_) E_))) (.br co M_ (.br (aj==0) M_ (.ob aM<|.br (t.kind==1) (.cl Hn (t.bo,()) λz7=>let aU:=(⟨t.name,aC,b.bl.getD (wr L_).toNat default,z7.1⟩:cO);.ob (IA (z2.1.bi.length+[aU].length) 64)<|.lf A3 (⟨z2.1.bi++[aU],z2.1.bl⟩,Q_,())) (.br (t.kind==3) (.br bQ (.ob bL<|.lf A3 (⟨z2.1.bi++[H_],z2.1.bl⟩,Q_,())) M_) M_)))))) ?_;repeat' first|(guard_target =~ Out.holds _ _;first|refine lfY ?_|refine Aa (λ_=>?_) λ_=>?_|refine Ae ?_ λ_=>?_|refine Ab ?_ λ_=>?_|refine DS ?_|refine Ed ?_ λ_=>?_)|exact trivial
 all_goals (have hl:b.bl.length<=100000000000:=by have h1:szBuilder b<=100000000000:=hp.1;simp only[szBuilder] at h1;omega)<;>(have hn:b.bi.length<=100000000000:=by have h1:szBuilder b<=100000000000:=hp.1;have:=Ac AM b.bi;simp only[szBuilder] at h1;omega)<;>(have ha:szL BW t.bo<=100000000000/\t.bo.length<=100000000000:=by have h1:szToken t<=100000000000:=hp.2;have:=Ac BW t.bo;simp only[szToken] at h1;omega)<;>(try simp only[std,Nat.reduceAdd] at *)<;>(try simp only[Ah (show -9223372036854775808<=(b.bl.length:Int)-1/\(b.bl.length:Int)-1<=9223372036854775807 from o_),IC] at *)<;>(first|trivial|omega|skip)<;>(first|(rw[H6 ‹_›];exact⟨rfl,rfl⟩)|skip)<;>(first|(rw[N2 o_ (by first|exact .inl o_|exact .inr (.inl o_)|exact .inr (.inr (.inl ⟨o_,‹_›,o_⟩))|exact .inr (.inr (.inr ⟨o_,.inl o_⟩))|exact .inr (.inr (.inr ⟨o_,.inr ‹_›⟩)))];exact⟨rfl,rfl⟩)|skip)<;>(first|(rw[NW o_ o_ o_ (by first|exact .inl ‹_›|exact .inr o_)];first|rw[I_ ‹_›]|rw[J_ (by rw[show isVoid t.name=false from ‹_›];decide)])|(rw[ON o_ o_ o_ ‹_›])|skip)<;>(first|exact⟨rfl,rfl⟩|exact absurd ((show isVoid t.name=true from ‹_›).symm.trans (show isVoid t.name=false from ‹_›)) (by decide)))
abbrev Ct (b:af) (t:ao):LInv:=⟨[⟨.b,6,true,.el .ba⟩,⟨.s,7,true,.el .int⟩,⟨.b,2,false,.el .ba⟩,⟨.b,3,false,.el .token⟩,⟨.b,4,true,.el .ba⟩],λ(z x:e7)=>(((x.1=b/\-1<=x.2.1/\x.2.1<b.bl.length/\closeN b t.name (x.2.1+1).toNat=closeN b t.name b.bl.length)/\x.2.2.1=z.2.2.1)/\x.2.2.2.1=z.2.2.2.1)/\x.2.2.2.2.1=z.2.2.2.2.1,λ(x:e7)=>(x.2.1+1).toNat⟩
def AmY:=AmX.a A3<|Fct.p (KP [2,3,4,5,6,7,8,9,10,11] [14,23,50,57,100,116,134]) (λ⟨b,t,_⟩=>lv [(4,Ct b t)]) AmX.2 func315 (by
 rintro⟨(b:af),(t:ao),_⟩ hp;refine ho (let aM:=(⟨#[]⟩:ByteArray);let aj:=(b.bi.length:Int);let cM:=decide (aj>=40);let U_:=(b.bl.length:Int);let aU:=U_-(1:Int);let cN:=0<=wr aU/\wr aU<U_;let M_:=(⟨aM,t.text,b.bl.getD (wr aU).toNat default,[]⟩:cO);let L_:=(⟨t.name,aM,b.bl.getD (wr aU).toNat default,[]++t.bo⟩:cO);.cl Cl (b,()) λz2=>let bQ:=z2.1.bl.length+[aj].length;let aF:=IA (z2.1.bi.length+[M_].length) 64;let bL:=IA (z2.1.bi.length+[L_].length) 64;let aC:Out:=.lf A3 (z2.1,(-1:Int),());let E_:Out:=.br (t.kind==1) (.cl Jf (t.name,()) λz3=>let H_:Out:=.ob cN<|.br (t.kind==1) (.ap (0+t.bo.length) 32<|.ob bL<|.br (!z3.1) (.ap bQ 8<|.lf A3 (⟨z2.1.bi++[L_],z2.1.bl++[aj]⟩,aj,())) (.lf A3 (⟨z2.1.bi++[L_],z2.1.bl⟩,aj,()))) (.ob aF<|.br (!z3.1) (.ap bQ 8<|.lf A3 (⟨z2.1.bi++[M_],z2.1.bl++[aj]⟩,aj,())) (.lf A3 (⟨z2.1.bi++[M_],z2.1.bl⟩,aj,())));.br cM aC (.br (U_==0) aC (.br (!z3.1) (.br (decide (U_>=8)) aC H_) H_))) (.br cM aC (.br (U_==0) aC (.ob cN<|.br (t.kind==1) (.ap (0+t.bo.length) 32<|.ob bL<|.lf A3 (⟨z2.1.bi++[L_],z2.1.bl⟩,aj,())) (.ob aF<|.lf A3 (⟨z2.1.bi++[M_],z2.1.bl⟩,aj,())))));.br (t.kind==2) (lpx (Ct b t) (z2.1,(wr aU,(b,(t,(default,()))))) λ(y3:e7) bk3=>let co:=(y3.2.2.1.bi.length:Int);let Q_:Out:=.re (Value.int IntKind.i64 (0:Int))<|.bk (bk3 (y3.1,(wr (y3.2.1-(1:Int)),(y3.2.2.1,(y3.2.2.2.1,(y3.2.2.2.2.1,()))))));.br (decide (y3.2.1>=1)) (.ob (inB y3.2.1 y3.2.2.1.bl.length)<|.br (decide (y3.2.2.1.bl.getD y3.2.1.toNat default>=0)) (.br (decide (y3.2.2.1.bl.getD y3.2.1.toNat default<co)) (.ob (0<=y3.2.2.1.bl.getD y3.2.1.toNat default/\y3.2.2.1.bl.getD y3.2.1.toNat default<co)<|.br ((y3.2.2.1.bi.getD (y3.2.2.1.bl.getD y3.2.1.toNat default).toNat default).name.toList==y3.2.2.2.1.name.toList) (.ob (0<=y3.2.1/\y3.2.1<=(y3.1.bl.length:Int))<|.ob (0+(y3.2.1.toNat-0)<=y3.1.bl.length)<|.lf A3 (⟨y3.1.bi,cut y3.1.bl 0 (y3.2.1.toNat-0)⟩,(-1:Int),())) Q_) Q_) Q_) (.lf A3 (y3.1,(-1:Int),()))) (.br (t.kind != 1) (.br (t.kind==3) (.br (!!t.text.toList==aM.toList) aC E_) (.br (!false) aC E_)) E_)) ?_;repeat' first|(guard_target =~ Out.holds _ _;first|refine Am (li:=Ct b t) ?_ λ(y3:e7) i3=>?_|refine lfY ?_|refine Aa (λ_=>?_) λ_=>?_|refine Ae ?_ λ_=>?_|refine Ab ?_ λ_=>?_|refine AR ?_|refine Ai ?_|refine Ed ?_ λ_=>?_)|exact trivial
 all_goals (have hl:b.bl.length<=100000000000:=by have h1:szBuilder b<=100000000000:=hp.1;simp only[szBuilder] at h1;omega)<;>(have hn:b.bi.length<=100000000000:=by have h1:szBuilder b<=100000000000:=hp.1;have:=Ac AM b.bi;simp only[szBuilder] at h1;omega)<;>(have ha:szL BW t.bo<=100000000000/\t.bo.length<=100000000000:=by have h1:szToken t<=100000000000:=hp.2;have:=Ac BW t.bo;simp only[szToken] at h1;omega)<;>(try simp only[std,Nat.reduceAdd] at *)<;>(try simp only[Ah (show -9223372036854775808<=(b.bl.length:Int)-1/\(b.bl.length:Int)-1<=9223372036854775807 from o_),IC] at *)<;>(first|trivial|omega|(rw[show((b.bl.length:Int)-1+1).toNat=b.bl.length from o_];exact⟨o_,o_,rfl⟩)|skip)<;>(first|(rw[N2 o_ (by first|exact .inl o_|exact .inr (.inl o_)|exact .inr (.inr (.inl ⟨o_,‹_›,o_⟩))|exact .inr (.inr (.inr ⟨o_,.inl o_⟩))|exact .inr (.inr (.inr ⟨o_,.inr ‹_›⟩)))];exact⟨rfl,rfl⟩)|skip)<;>(first|(rw[NW o_ o_ o_ (by first|exact .inl ‹_›|exact .inr o_)];first|rw[I_ ‹_›]|rw[J_ (by rw[show isVoid t.name=false from ‹_›];decide)])|(rw[ON o_ o_ o_ ‹_›])|skip)<;>(first|exact⟨rfl,rfl⟩|exact absurd ((show isVoid t.name=true from ‹_›).symm.trans (show isVoid t.name=false from ‹_›)) (by decide)|skip)<;>(try obtain⟨⟨⟨⟨a0,a1,a2,a3⟩,e1⟩,e2⟩,e3⟩:=i3;simp only[a0,e1,e2] at *)<;>(try simp only[Z_,ep,aH,ca] at *)<;>(first|omega|(rw[PN o_] at a3;rw[H6 ‹_›];unfold closeB;rw[<-a3];exact⟨rfl,rfl⟩)|skip)<;>rw[SG o_] at a3<;>(first|(rw[I_ (by exact⟨o_,o_,‹_›⟩)] at a3;rw[H6 ‹_›];unfold closeB;rw[<-a3];simp[cut];done)|(rw[J_ (by rintro⟨q1,q2,q3⟩;first|omega|exact absurd q3 ‹_›)] at a3;rw[Ah o_,show(y3.2.1-1+1).toNat=y3.2.1.toNat from o_];exact⟨⟨⟨⟨⟨trivial,o_,o_,a3⟩,trivial⟩,trivial⟩,e3⟩,o_⟩)|skip))
def HP (s b:ByteArray):(parseAddr s b).1.host.size<=s.size+b.size/\(parseAddr s b).1.path.size<=s.size+b.size:=by
 have:=Lp s b;unfold parseAddr;split
 ·grind
 ·exact⟨Nat.zero_le _,Nat.zero_le _⟩
def reqOf (p:C_) (s:ay):ar:=⟨kindOf s.mode,s.to,p.addr.host,s.digest⟩
def rawSlot (p:C_) (mode:Int) (to digest:ByteArray) (node:Int):ay:=⟨mode,(parseAddr to p.addr.host).1,digest,node,false,0,⟨#[]⟩⟩
def newSlot (p:C_) (mode:Int) (to digest:ByteArray) (node:Int):ay :=
 if(parseAddr to p.addr.host).2=true/\checkRequest p.bj (reqOf p (rawSlot p mode to digest node))=1 then rawSlot p mode to digest node
 else⟨mode,(parseAddr to p.addr.host).1,digest,node,true,2,⟨#[]⟩⟩
def addSlot (p:C_) (mode:Int) (to digest:ByteArray) (node:Int):C_×Int :=
 if p.bf.length<20/\kindOf mode≠0 then({ p with bf:=p.bf++[newSlot p mode to digest node]},(p.bf.length:Int)) else(p,-1)
def MQ (p:C_) (s:ay):slotRequest { p with bf:=p.bf++[s]} (p.bf.length:Int)=reqOf p s:=by
 unfold slotRequest reqOf;grind
def PU {p:C_} {mode:Int} {to digest:ByteArray} {node:Int} (h:20<=p.bf.length\/kindOf mode=0):addSlot p mode to digest node=(p,-1):=by
 unfold addSlot;rw[J_];rintro⟨q1,q2⟩;rcases h with h|h
 ·omega
 ·exact q2 h
def Om {p:C_} {mode:Int} {to digest:ByteArray} {node:Int} (h:p.bf.length<20) (h2:¬ kindOf mode=0):addSlot p mode to digest node=({ p with bf:=p.bf++[newSlot p mode to digest node]},(p.bf.length:Int)):=by
 unfold addSlot;rw[I_ ⟨h,h2⟩]
def KZ {α:Type}:∀ (l:List α) (x:α) (f:α->α),(l++[x]).modify l.length f=l++[f x]
 | [],x,f=>rfl
 | a::l,x,f=>by show a::(l++[x]).modify l.length f=_;rw[KZ l x f];rfl
def P3 {p:C_} {m:Int} {to d:ByteArray} {n:Int} (h:(parseAddr to p.addr.host).2=false\/¬ checkRequest p.bj (reqOf p (rawSlot p m to d n))=1):newSlot p m to d n=⟨m,(parseAddr to p.addr.host).1,d,n,true,2,⟨#[]⟩⟩:=by
 unfold newSlot;rw[J_];rintro⟨q1,q2⟩;rcases h with h|h
 ·simp_all
 ·exact h q2
def Nz {p:C_} {m:Int} {to d:ByteArray} {n:Int} (h:(parseAddr to p.addr.host).2=true) (h2:checkRequest p.bj (reqOf p (rawSlot p m to d n))=1):newSlot p m to d n=rawSlot p m to d n:=by
 unfold newSlot;rw[I_ ⟨h,h2⟩]
abbrev Cc:Fct:=⟨[.v (.el .page),.v (.el .int),.v (.el .str),.v (.el .str),.v (.el .int)],[.el .page,.el .int],λ(x:gq)=>Aj x.1<=1090000000000/\x.1.addr.host.size<=4000000000/\x.2.2.1.size<=4000000000/\x.2.2.2.1.size<=50000000000,λ(x:gq)=>((addSlot x.1 x.2.1 x.2.2.1 x.2.2.2.1 x.2.2.2.2.1).1,(addSlot x.1 x.2.1 x.2.2.1 x.2.2.2.1 x.2.2.2.2.1).2,())⟩
def AkT:=AmY.a Cc<|Fct.o (KP [1,2,3,4,5,10,11,12,13,14,15] [27,57]) AmY.2 func398 (by
 rintro⟨(p:C_),(m:Int),(to:ByteArray),(d:ByteArray),(n:Int),_⟩ hp;refine ho (let H_:=(p.bf.length:Int);.cl AA (p,()) λz2=>let M_:Out:=.lf Cc (z2.1,(-1:Int),());.br (decide (H_>=20)) M_ (.cl BF (m,()) λ(z3:B_)=>.br (z3.1==0) M_ (.cl AK (to,p.addr.host,()) λz4=>let E_:=(⟨m,z4.1,d,n,false,(0:Int),(⟨#[]⟩:ByteArray)⟩:ay);let L_:=z2.1.bf++[E_];.ap (z2.1.bf.length+[E_].length) 96<|.br (!z4.2.1) (.ix H_ (L_.length)<|.lt (List ay) (L_.modify H_.toNat λz=>({z with done:=true}:ay)) λz5=>.ix H_ z5.length<|.lt (List ay) (z5.modify H_.toNat λz=>({z with code:=(2:Int)}:ay)) λz6=>.lf Cc ({z2.1 with bf:=z6},H_,())) (.cl Bs (({z2.1 with bf:=z2.1.bf++[E_]}:C_),H_,()) λz7=>.cl Ay (p.bj,z7.1,()) λ(z8:B_)=>.br (z8.1 != 1) (.ix H_ (L_.length)<|.lt (List ay) (L_.modify H_.toNat λz=>({z with done:=true}:ay)) λz9=>.ix H_ z9.length<|.lt (List ay) (z9.modify H_.toNat λz=>({z with code:=(2:Int)}:ay)) λz10=>.lf Cc ({z2.1 with bf:=z10},H_,())) (.lf Cc ({z2.1 with bf:=z2.1.bf++[E_]},H_,())))))) ?_;repeat' first|(guard_target =~ Out.holds _ _;first|refine lfY ?_|refine Aa (λ_=>?_) λ_=>?_|refine Ae ?_ λ_=>?_|refine DS ?_|refine Ed ?_ λ_=>?_|refine Ei ?_ λ_ _=>?_)|exact trivial
 all_goals (have hl:p.bf.length<=1090000000000:=by have h1:Aj p<=1090000000000:=hp.1;have:=Ac AO p.bf;simp only[Aj] at h1;omega)<;>(have hpo:AQ p.bj<=1090000000000:=by have h1:Aj p<=1090000000000:=hp.1;simp only[Aj] at h1;omega)<;>(have hz:=HP to p.addr.host;try simp only[Kj] at *)<;>(try simp only[std,Nat.reduceAdd] at *)<;>(try simp only[MQ,KZ,al,aw,aJ,fw] at *)<;>(first|trivial|omega|(rw[PU (by first|exact .inl o_|exact .inr ‹_›)];exact⟨rfl,rfl⟩)|rw[Om o_ ‹_›]|skip)<;>(first|exact⟨o_,by simp only[BE,szAddr,reqOf];omega⟩|(rw[P3 (by first|exact .inl ‹_›|exact .inr ‹_›)];exact⟨rfl,rfl⟩)|(rw[Nz ‹_› ‹_›];exact⟨rfl,rfl⟩)))
def Amf:=AkT.a Cc<|Fct.o (KP [1,2,3,4,5,10,11,12,13,14,15] [26,59]) AkT.2 func380 (by
 rintro⟨(p:C_),(m:Int),(to:ByteArray),(d:ByteArray),(n:Int),_⟩ hp;refine ho (let H_:=(p.bf.length:Int);.cl AA (p,()) λz2=>let M_:Out:=.lf Cc (z2.1,(-1:Int),());.br (decide (H_>=20)) M_ (.cl BF (m,()) λ(z3:B_)=>.br (z3.1==0) M_ (.cl AK (to,p.addr.host,()) λz4=>let E_:=(⟨m,z4.1,d,n,false,(0:Int),(⟨#[]⟩:ByteArray)⟩:ay);let L_:=z2.1.bf++[E_];.ap (z2.1.bf.length+[E_].length) 96<|.br (!z4.2.1) (.ix H_ (L_.length)<|.lt (List ay) (L_.modify H_.toNat λz=>({z with done:=true}:ay)) λz5=>.ix H_ z5.length<|.lt (List ay) (z5.modify H_.toNat λz=>({z with code:=(2:Int)}:ay)) λz6=>.lf Cc ({z2.1 with bf:=z6},H_,())) (.cl Bs (({z2.1 with bf:=z2.1.bf++[E_]}:C_),H_,()) λz7=>.cl Ay (p.bj,z7.1,()) λ(z8:B_)=>.br (z8.1 != 1) (.ix H_ (L_.length)<|.lt (List ay) (L_.modify H_.toNat λz=>({z with done:=true}:ay)) λz9=>.ix H_ z9.length<|.lt (List ay) (z9.modify H_.toNat λz=>({z with code:=(2:Int)}:ay)) λz10=>.lf Cc ({z2.1 with bf:=z10},H_,())) (.lf Cc ({z2.1 with bf:=z2.1.bf++[E_]},H_,())))))) ?_;repeat' first|(guard_target =~ Out.holds _ _;first|refine lfY ?_|refine Aa (λ_=>?_) λ_=>?_|refine Ae ?_ λ_=>?_|refine DS ?_|refine Ed ?_ λ_=>?_|refine Ei ?_ λ_ _=>?_)|exact trivial
 all_goals (have hl:p.bf.length<=1090000000000:=by have h1:Aj p<=1090000000000:=hp.1;have:=Ac AO p.bf;simp only[Aj] at h1;omega)<;>(have hpo:AQ p.bj<=1090000000000:=by have h1:Aj p<=1090000000000:=hp.1;simp only[Aj] at h1;omega)<;>(have hz:=HP to p.addr.host;try simp only[std,Nat.reduceAdd] at *)<;>(try simp only[MQ,KZ,al,aw,aJ,fw] at *)<;>(first|trivial|omega|(rw[PU (by first|exact .inl o_|exact .inr ‹_›)];exact⟨rfl,rfl⟩)|rw[Om o_ ‹_›]|skip)<;>(first|exact⟨o_,by simp only[BE,szAddr,reqOf];omega⟩|(rw[P3 (by first|exact .inl ‹_›|exact .inr ‹_›)];exact⟨rfl,rfl⟩)|(rw[Nz ‹_› ‹_›];exact⟨rfl,rfl⟩)))
def fillS (p:C_) (x:R_) (s:ay):ay:=if s.done=true then s else{ s with done:=true,code:=checkResponse p.bj (reqOf p s) x,body:=(usable p.bj (reqOf p s) x).1 }
def fillSlot (p:C_) (k:Int) (x:R_):C_:=if 0<=k/\k<p.bf.length then{ p with bf:=p.bf.modify k.toNat (fillS p x)} else p
abbrev GU:Fct:=⟨[.v (.el .page),.v (.el .int),.v (.el .bd)],[.el .page],λ(x:fm)=>Aj x.1<=1000000000000/\x.1.addr.host.size<=4000000000/\(∀ i,i<x.1.bf.length->AO (x.1.bf.getD i default)<=50000000000)/\-9223372036854775808<=x.2.1/\x.2.1<=9223372036854775807/\x.2.2.1.bj.size<=200000000/\x.2.2.1.body.size<=1000000000,λ(x:fm)=>(fillSlot x.1 x.2.1 x.2.2.1,())⟩
def askFrom (a:D_):List Y_->Nat
 | []=>0
 | m::l=>if cmpA m.to a<0 then askFrom a l+1 else 0
def Qd {a:D_} {l:List Y_} {i:Nat} (h:i<l.length):askFrom a (l.drop i)=if cmpA (l.getD i default).to a<0 then askFrom a (l.drop (i+1))+1 else 0:=by rw[HO h];rfl
def OR {a:D_} {l:List Y_} {i:Nat} (h:l.length<=i):askFrom a (l.drop i)=0:=by rw[bR h];rfl
def newMod (p:C_) (a:D_):Y_:=if checkRequest p.bj ⟨5,a,p.addr.host,⟨#[]⟩⟩=1 then⟨a,false,0,⟨#[]⟩⟩ else⟨a,true,2,⟨#[]⟩⟩
def askModule (p:C_) (a:D_):C_ :=
 if askFrom a p.bh<p.bh.length/\(p.bh.getD (askFrom a p.bh) default).to=a then p
 else{ p with bh:=p.bh.take (askFrom a p.bh)++newMod p a::p.bh.drop (askFrom a p.bh)}
def Aeo {l:List Y_} {i:Nat} {m:Y_} (h:i<=l.length):cut l 0 i++[m]++cut l i (l.length-i)=l.take i++m::l.drop i:=by
 simp only[cut,dt,bB,dp,fi];rw[ct (l:=List.drop i l) (by simp)]
def SD {p:C_} {a:D_} {i:Nat} (h:askFrom a p.bh=i) (h1:i<p.bh.length) (h2:(p.bh.getD i default).to=a):askModule p a=p:=by
 unfold askModule;rw[h,I_ ⟨h1,h2⟩]
def AaX {p:C_} {a:D_} {i:Nat} (h:askFrom a p.bh=i) (h0:i<=p.bh.length) (h1:i=p.bh.length\/¬ (p.bh.getD i default).to=a) (m:Y_) (hm:m=newMod p a):askModule p a={ p with bh:=cut p.bh 0 i++[m]++cut p.bh i (p.bh.length-i)}:=by
 unfold askModule;rw[h,J_,Aeo h0,hm];grind
def S1 {p:C_} {a:D_} (h:checkRequest p.bj ⟨5,a,p.addr.host,⟨#[]⟩⟩=1):(⟨a,false,0,⟨#[]⟩⟩:Y_)=newMod p a:=by unfold newMod;rw[I_ h]
def Sp {p:C_} {a:D_} (h:¬ checkRequest p.bj ⟨5,a,p.addr.host,⟨#[]⟩⟩=1):(⟨a,true,2,⟨#[]⟩⟩:Y_)=newMod p a:=by unfold newMod;rw[J_ h]
abbrev Bi:Fct:=⟨[.v (.el .page),.v (.el .addr)],[.el .page],λ(x:aO)=>Aj x.1<=1090000000000/\x.1.addr.host.size<=4000000000/\szAddr x.2.1<=50000000000,λ(x:aO)=>(askModule x.1 x.2.1,())⟩
abbrev B6 (p:C_) (a:D_):LInv:=⟨[⟨.s,6,true,.el .int⟩,⟨.b,2,false,.el .page⟩,⟨.b,3,true,.el .addr⟩,⟨.b,4,true,.el .page⟩,⟨.b,5,true,.el .page⟩],λ(z x:ck)=>((((0<=x.1/\x.1<=p.bh.length/\x.1+askFrom a (p.bh.drop x.1.toNat)=askFrom a p.bh)/\x.2.1=z.2.1)/\x.2.2.1=z.2.2.1)/\x.2.2.2.1=z.2.2.2.1)/\x.2.2.2.2.1=z.2.2.2.2.1,λ(x:ck)=>p.bh.length-x.1.toNat⟩
def An7:=Amf.a Bi<|Fct.p (KP [2,3,4,5,6,7,8] [26,43,55]) (λ⟨p,a,_⟩=>lv [(3,B6 p a)]) Amf.2 func263 (by
 rintro⟨(p:C_),(a:D_),_⟩ hp;refine ho (let aM:=(⟨#[]⟩:ByteArray);.cl AA (p,()) λz2=>lpx (B6 p a) ((0:Int),(p,(a,(default,(z2.1,()))))) λ(y2:ck) bk2=>let cM:=inB y2.1 y2.2.1.bh.length;let aF:=decide (y2.1<(y2.2.1.bh.length:Int));let aC:=y2.2.1.bh.getD y2.1.toNat default;let aj:=y2.1.toNat-0;let cN:=[]++cut y2.2.2.2.2.1.bh 0 aj;let bQ:=0+aj<=y2.2.2.2.2.1.bh.length;let aU:=IA (0+(cut y2.2.2.2.2.1.bh 0 aj).length) 64;let U_:=(⟨y2.2.2.1,true,(2:Int),aM⟩:Y_);let Q_:=(⟨y2.2.2.1,false,(0:Int),aM⟩:Y_);let M_:=0<=y2.1/\y2.1<=(y2.2.2.2.2.1.bh.length:Int);let L_:=y2.2.2.2.2.1.bh.length-y2.1.toNat;let co:=cut y2.2.2.2.2.1.bh y2.1.toNat L_;let bL:=y2.1.toNat+L_<=y2.2.2.2.2.1.bh.length;let E_:Out:=.cl Ay (y2.2.1.bj,(⟨(5:Int),y2.2.2.1,y2.2.1.addr.host,aM⟩:ar),()) λ(z4:B_)=>.br (z4.1 != 1) (.ob M_<|.ob bQ<|.ob aU<|.ap (cN.length+[U_].length) 64<|.ob M_<|.ob bL<|.ob (IA (([]++cut y2.2.2.2.2.1.bh 0 aj++[U_]).length+co.length) 64)<|.lf Bi ({y2.2.2.2.2.1 with bh:=[]++cut y2.2.2.2.2.1.bh 0 aj++[U_]++cut y2.2.2.2.2.1.bh y2.1.toNat L_},())) (.ob M_<|.ob bQ<|.ob aU<|.ap (cN.length+[Q_].length) 64<|.ob M_<|.ob bL<|.ob (IA (([]++cut y2.2.2.2.2.1.bh 0 aj++[Q_]).length+co.length) 64)<|.lf Bi ({y2.2.2.2.2.1 with bh:=[]++cut y2.2.2.2.2.1.bh 0 aj++[Q_]++cut y2.2.2.2.2.1.bh y2.1.toNat L_},()));let H_:Out:=.br aF (.ob cM<|.br (aC.to.host==y2.2.2.1.host&&(aC.to.path==y2.2.2.1.path&&true)) (.lf Bi (y2.2.2.2.2.1,())) E_) E_;.br aF (.ob cM<|.cl BH (aC.to,y2.2.2.1,()) λ(z3:B_)=>.br (decide (z3.1<0)) (.bk (bk2 (w1 y2.1,(y2.2.1,(y2.2.2.1,(y2.2.2.2.1,(y2.2.2.2.2.1,()))))))) H_) H_) ?_;repeat' first|(guard_target =~ Out.holds _ _;first|refine Am (li:=B6 p a) ?_ λ(y2:ck) i2=>?_|refine lfY ?_|refine Aa (λ_=>?_) λ_=>?_|refine Ae ?_ λ_=>?_|refine Ab ?_ λ_=>?_|refine AR ?_|refine Ed ?_ λ_=>?_)|exact trivial
 all_goals (have hl:p.bh.length<=1090000000000:=by have h1:Aj p<=1090000000000:=hp.1;have:=Ac AF p.bh;simp only[Aj] at h1;omega)<;>(have hpo:AQ p.bj<=1090000000000/\p.addr.host.size<=50000000000:=by have h1:Aj p<=1090000000000:=hp.1;have h2:p.addr.host.size<=4000000000:=hp.2.1;simp only[Aj,szAddr] at h1;omega)<;>(try simp only[std,Nat.reduceAdd] at *)<;>(first|trivial|omega|exact⟨o_,o_,by simp⟩|skip)<;>(try obtain⟨⟨⟨⟨⟨a1,a2,a3⟩,e1⟩,e2⟩,e3⟩,e4⟩:=i2;simp only[e1,e2,e3,e4,Ev,aH,ca,Nat.sub_zero,fi] at *)<;>(first|trivial|omega|exact⟨o_,by simp only[BE,szAddr] at *;show _+_+0<=_;omega⟩|skip)<;>(first|(have hc:(cut p.bh 0 y2.1.toNat).length=y2.1.toNat:=by(simp only[cut,bS,dn];omega))|skip)<;>(try simp only[hc,cx,al,aw,aJ] at *)<;>(first|trivial|omega|(simp only[cut,bS,dn];omega)|skip)<;>(first|(have e:=Qd (a:=a) (l:=p.bh) (i:=y2.1.toNat) o_;first|rw[I_ o_] at e|rw[J_ o_] at e)|(have e:=OR (a:=a) (l:=p.bh) (i:=y2.1.toNat) o_))<;>(first|(rw[Ah o_,show(y2.1+1).toNat=y2.1.toNat+1 from o_];simp only[and_true];exact⟨⟨o_,o_,o_⟩,o_⟩)|skip)<;>have e5:askFrom a p.bh=y2.1.toNat:=o_<;>(first|(rw[SD e5 o_ ‹_›])|(rw[AaX e5 o_ (by first|exact .inr ‹_›|exact .inl o_) _ (by first|exact S1 ‹_›|exact Sp ‹_›)])))
open Go.RowKit in
def AdL {P:Program} (w:World) (dT sT ty elem:TypeId) (g o dLen dCap:Nat) (a:Addr) (sLen sCap k:Nat) (cur:Array Value) (t:TypeId) (cs:List Value)
 (hu:P.underlying dT=some (.slice elem)) (hs:(P.info? elem).map (·.size)=some k)
 (hg:w.heap[g]? = some (.cells cur t (0,0))) (hn:cs.length=Nat.min sLen dLen*k)
 (hsrc:∀ j v,cs[j]? = some v->w.cell? (a.add j)=some v) (hfit:o+cs.length<=cur.size) (h1:∀ v∈cs,v.oneCell'=true) :
 (Builtin.copy_ #[dT,sT] ty #[.slice (some ⟨g,o,none⟩) dLen dCap,.slice (some a) sLen sCap]).run P w =
  .ok (goInt (Nat.min sLen dLen)) (w.setRow g (cur.toList.take o++cs++cur.toList.drop (o+cs.length)).toArray):=by
 have hl:=run_loadCells_list (P:=P) w a cs hsrc;have hst:=run_storeCells_at P g o t cs 0 cur w hg (by simpa using hfit) h1;cases hq:P.info? elem with
 | none=>simp[hq] at hs
 | some i=>
  have hi:i.size=k:=by simpa [hq] using hs
  simp[Builtin.copy_,run_underlying hu,Builtin.lenOf,Builtin.firstCells,sizeOf,typeInfo,hq,hi,<-hn,hl,hst]
open Go.RowKit in
def Aeq {P:Program} (w:World) {ops:Array Oper} {rest:List Oper} {o:Oper} {a:Act} {Q:Exit->Act->World->Prop} (hgd:o.guard=none) (d s:Operand) (t t':TypeId)
 (ho:o.op=.call { callee:=.builtin .copy,args := #[d,s],argTypes := #[t,t']}) (v u:Value) (hd:a.eval d=v) (hs:a.eval s=u) {v':Value} {w':World}
 (hr:(Builtin.copy_ #[t,t'] o.type #[v,u]).run P w=.ok v' w') (h:wpList P ops Q rest (a.put o.dst v') w'):wpList P ops Q (o::rest) a w :=
 wpList_plain hgd λK hK=>by unfold Oper.wp execOp;simp only[ho,resolve,invoke,builtin,Sem.run_bind,Sem.run_pure,Result.andThen_ok,List.map_toArray,bZ,List.map_nil,hd,hs,hr];exact hK _ _ h
open Go.RowKit in
def AeA {P:Program} {ops:Array Oper} {o:Oper} {a:Act} {w:World} {K:Act->World->Prop} {Q:Exit->Act->World->Prop} {E:Prop}
 (hg:o.guard=none) (d x:Operand) (dT sT:TypeId) (hop:o.op=Op.call { callee:=Callee.builtin Builtin.copy,args := #[d,x],argTypes := #[dT,sT]})
 (v u:Value) (hd:a.eval d=v) (hx:a.eval x=u) {v':Value} {w':World} (hr:(Builtin.copy_ #[dT,sT] o.type #[v,u]).run P w=.ok v' w') (hK:K (a.put o.dst v') w') :
 if Region.wanted o (yielded ops a.tmps)=true then Oper.wp P o a w K Q else E:=by
 have hw:Region.wanted o (yielded ops a.tmps)=true:=by simp[Region.wanted,hg]
 rw[I_ hw];unfold Oper.wp;simp[execOp,hop,resolve,invoke,builtin,hd,hx,hr,Result.andThen];exact hK
open Go.RowKit in
def insRow (row:Array Value) (off n m i:Nat) (vs:List Value) (o:Nat) (row':Array Value):Prop:=∀ x,x<(n+m)*5->row'[o+x]? = if x<i*5 then row[off+x]? else if x<(i+m)*5 then vs[x-i*5]? else row[off+x-m*5]?
open Go.RowKit in
def Acl (w:World) (b off n c i vb voff m vc:Nat) (row:Array Value) (e:TypeId) (vs:List Value) (hg:w.heap[b]? = some (.cells row e (0,0))) (hrow:off+c*5<=row.size) (hi:i<n) (hm:0<m) (hroom:n+m<=c) (hnm:n+m<=1100000000001)
 (hvl:vs.length=m*5) (hvb:vb≠b) (hvs:∀ j v,vs[j]? = some v->w.cell? ⟨vb,voff+j,none⟩=some v) (h1v:∀ v∈vs,v.oneCell'=true) (h1c:∀ x v,x<n*5->row[off+x]? = some v->v.oneCell'=true)
 (tA:TypeId) (kA:Nat) (hsa:w.shape? vb=some (tA,kA)) (hfa:w.frozen? ⟨vb,voff,none⟩=false) (hfe:w.frozen? ⟨vb,kA,none⟩=false) :
 Calls Tryz.prog 330 #[.slice (some ⟨b,off,none⟩) n c,.int .i64 i,.slice (some ⟨vb,voff,none⟩) m vc] w λe' w'=>
  e'=.returned (.slice (some ⟨b,off,none⟩) (n+m) c)/\∃ row',w'=w.drew.setRow b row'/\row'.size=row.size/\insRow row off n m i vs off row':=by
 have u66:Tryz.prog.underlying 44=some (.slice 181):=k_
 have z224:(Tryz.prog.info? 181).map (·.size)=some 5:=k_
 have y224:∀ w,(Go.sizeOf 181).run Tryz.prog w=.ok 5 w:=λw=>k_
 have hz1:¬ ((m:Int)=0):=o_
 have hz2:¬ ((i:Int)=(n:Int)):=o_
 have hsb:w.shape? b=some (e,row.size):=by simp[World.shape?,hg]
 have hov:∀ lb cb,(callFunc 390 #[.slice (some ⟨vb,voff,none⟩) m vc,.slice (some ⟨b,off+(i+m)*5,none⟩) lb cb]).run Tryz.prog w=.ok (.value (.bool false)) w:=λlb cb=>by
  rw[run_callFunc_extern func390 k_ k_ k_ (e:=Extern.SlicesOverlaps.overlaps #[44,44] #[4]) k_,
   Lib.run_overlaps_apart w 44 4 181 u66 5 y224 ⟨vb,voff,none⟩ ⟨b,off+(i+m)*5,none⟩ m vc lb cb hvb tA e kA row.size hsa hsb o_ hfa hfe]
  rfl
 have hw1:IntKind.i64.wrap ((i:Int)+(m:Int))=(i:Int)+(m:Int):=by rw[IntKind.wrap_i64];omega
 have hb1:(0:Int)<=(i:Int)+(m:Int):=o_
 have hin:i<=n:=o_
 have htn:((i:Int)+(m:Int)).toNat=i+m:=o_
 have hb2:¬ (c=i+m):=o_
 have hb3:(i:Int)<=(n:Int)+(m:Int):=o_
 have hb4:¬ (c=i):=o_
 have hrl:row.toList.length=row.size:=cW;obtain⟨cs1,hcs1⟩:∃ cs1,cs1=(row.toList.drop (off+i*5)).take ((n-i)*5):=⟨_,rfl⟩;have hl1:cs1.length=(n-i)*5:=by rw[hcs1,bS,dn];omega
 have hc1:∀ j,j<(n-i)*5->cs1[j]? = row[off+i*5+j]?:=λj hj=>by rw[hcs1,eB,I_ hj,e8];simp
 obtain⟨row1,hrow1⟩:∃ r,r=(row.toList.take (off+(i+m)*5)++cs1++row.toList.drop (off+(i+m)*5+cs1.length)).toArray:=⟨_,rfl⟩;have hs1:row1.size=row.size:=by rw[hrow1];simp only[List.size_toArray,al,bS,dn];omega
 have hgd:w.drew.heap[b]? = some (.cells row e (0,0)):=hg;have hcp1:∀ ty dc sc,(Builtin.copy_ #[44,44] ty #[.slice (some ⟨b,off+(i+m)*5,none⟩) (n+m-(i+m)) dc,.slice (some ⟨b,off+i*5,none⟩) (n+m-i) sc]).run Tryz.prog w.drew=.ok (goInt (n-i:Nat)) (w.drew.setRow b row1):=λty dc sc=>by
  have hmin:Nat.min (n+m-i) (n+m-(i+m))=n-i:=by show min _ _=_;omega
  have:=AdL (P:=Tryz.prog) w.drew 44 44 ty 181 b (off+(i+m)*5) (n+m-(i+m)) dc ⟨b,off+i*5,none⟩ (n+m-i) sc 5 row e cs1 u66 z224 hgd (by rw[hmin];exact hl1)
   (λj v hj=>by have hj2:j<cs1.length:=(List.getElem?_eq_some_iff.1 hj).1;rw[Addr.add_lit];show w.cell? ⟨b,off+i*5+j,none⟩=some v;rw[<-hj,hc1 j o_];simp[World.cell?,hg]) o_
   (λv hv=>by obtain⟨j,hj⟩:=List.getElem?_of_mem hv;have hj2:j<cs1.length:=(List.getElem?_eq_some_iff.1 hj).1;rw[hc1 j o_] at hj;exact h1c (i*5+j) v o_ (by rw[<-hj];congr 1;omega))
  rw[hmin,<-hrow1] at this;exact this
 obtain⟨row2,hrow2⟩:∃ r,r=(row1.toList.take (off+i*5)++vs++row1.toList.drop (off+i*5+vs.length)).toArray:=⟨_,rfl⟩;have hs2:row2.size=row.size:=by rw[hrow2];simp only[List.size_toArray,al,bS,dn,cW];omega
 have hg1:(w.drew.setRow b row1).heap[b]? = some (.cells row1 e (0,0)):=setRow_heap w.drew b row row1 e (0,0) hgd;have hcp2:∀ ty dc,(Builtin.copy_ #[44,44] ty #[.slice (some ⟨b,off+i*5,none⟩) (n+m-i) dc,.slice (some ⟨vb,voff,none⟩) m vc]).run Tryz.prog (w.drew.setRow b row1)=.ok (goInt m) (w.drew.setRow b row2):=λty dc=>by
  have hmin:Nat.min m (n+m-i)=m:=by show min _ _=_;omega
  have:=AdL (P:=Tryz.prog) (w.drew.setRow b row1) 44 44 ty 181 b (off+i*5) (n+m-i) dc ⟨vb,voff,none⟩ m vc 5 row1 e vs u66 z224 hg1 (by rw[hmin];exact hvl)
   (λj v hj=>by have:=hvs j v hj;rw[Addr.add_lit];rw[World.cell?] at this ⊢;rw[setRow_other w.drew b vb row1 hvb];exact this) (by rw[hs1];omega) h1v
  rw[hmin,<-hrow2,setRow_setRow] at this;exact this
 have hr1l:row1.toList.length=row1.size:=cW;have hins:insRow row off n m i vs off row2:=by
  intro x hx;have e1:row2[off+x]? = if off+x<off+i*5 then row1[off+x]? else if off+x<off+i*5+vs.length then vs[off+x-(off+i*5)]? else row1[off+x]?:=by rw[hrow2,List.getElem?_toArray,Ig o_];simp
  have e2:row1[off+x]? = if off+x<off+(i+m)*5 then row[off+x]? else if off+x<off+(i+m)*5+cs1.length then cs1[off+x-(off+(i+m)*5)]? else row[off+x]?:=by rw[hrow1,List.getElem?_toArray,Ig o_];simp
  rw[e1];by_cases h1:x<i*5
  ·rw[I_ o_,I_ h1,e2,I_ o_]
  ·rw[J_ o_,J_ h1];by_cases h2:x<(i+m)*5
   ·rw[I_ o_,I_ h2];congr 1;omega
   ·rw[J_ o_,J_ h2,e2,J_ o_,I_ o_,hc1 _ o_];congr 1;omega
 clear hr1l hrl hrow2 hrow1 hg1 hgd hcs1 hc1 hl1 hs1
 go_enter func330,Tryz.ntmps330
 go_wp2_with (simp only[hov])
 have mixed:Tryz.prog.follows Departure.mixedOrders=true:=k_
 go_region_law_o (refine AeA rfl _ _ 44 44 rfl (.slice (some ⟨b,off+(i+m)*5,none⟩) (n+m-(i+m)) (c-(i+m))) (.slice (some ⟨b,off+i*5,none⟩) (n+m-i) (c-i)) (by simp[Act.eval,Act.put]) (by simp[Act.eval,Act.put]) (hcp1 44 (c-(i+m)) (c-i)) ?_)
 go_wp2_with (at_builtin;refine Aeq _ rfl _ _ 44 44 rfl _ _ rfl rfl (hcp2 _ _) ?_)
 go_ret
 exact⟨rfl,row2,rfl,hs2,hins⟩
open Go.RowKit in
def AcK (w:World) (b off n c i vb voff m vc:Nat) (row:Array Value) (e:TypeId) (vs:List Value) (hg:w.heap[b]? = some (.cells row e (0,0))) (hnc:n<=c) (hrow:off+c*5<=row.size) (hi:i<n) (hm:0<m) (hroom:c<n+m) (hnm:n+m<=1100000000001)
 (hvl:vs.length=m*5) (hvb:vb≠b) (hlv:vb<w.heap.size) (hvs:∀ j v,vs[j]? = some v->w.cell? ⟨vb,voff+j,none⟩=some v) (h1v:∀ v∈vs,v.oneCell'=true) (h1c:∀ x v,x<n*5->row[off+x]? = some v->v.oneCell'=true) :
 Calls Tryz.prog 330 #[.slice (some ⟨b,off,none⟩) n c,.int .i64 i,.slice (some ⟨vb,voff,none⟩) m vc] w λe' w'=>
  ∃ c' row',n+m<=c'/\c'*5<=row'.size/\e'=.returned (.slice (some ⟨w.heap.size,0,none⟩) (n+m) c')/\Neu w w'/\w'.heap[w.heap.size]? = some (.cells row' 181 (0,0))/\insRow row off n m i vs 0 row':=by
 have u66:Tryz.prog.underlying 44=some (.slice 181):=k_
 have u3:Tryz.prog.underlying 3=some (.int .i64):=k_
 have z224:(Tryz.prog.info? 181).map (·.size)=some 5:=k_
 have i224:(Tryz.prog.info? 181).map (λi=>(i.size,i.bytes,i.zero.map (·.cells.size)))=some (5,64,some 5):=k_
 obtain⟨i0,z0,hi0,hz0,hs0,hb0,hzc⟩:∃ i z,Tryz.prog.info? 181=some i/\i.zero=some z/\i.size=5/\i.bytes=64/\z.cells.size=5:=by
  cases hq:Tryz.prog.info? 181 with
  | none=>rw[hq] at i224;simp at i224
  | some j=>
   rw[hq] at i224;simp only[aY,P_,bW] at i224;obtain⟨a1,a2,a3⟩:=i224;cases hz:j.zero with
   | none=>rw[hz] at a3;simp at a3
   | some z=>rw[hz] at a3;exact⟨j,z,rfl,hz,a1,a2,by simpa using a3⟩
 have hz1:¬ ((m:Int)=0):=o_
 have hz2:¬ ((i:Int)=(n:Int)):=o_
 have hz3:(c:Int)<(n:Int)+(m:Int):=o_
 have hbw:b<w.heap.size:=by
  rcases Nat.lt_or_ge b w.heap.size with h|h
  ·exact h
  ·rw[Array.getElem?_eq_none h] at hg;cases hg
 have hrl:row.toList.length=row.size:=cW;obtain⟨cs0,hcs0⟩:∃ cs,cs=(row.toList.drop off).take (i*5):=⟨_,rfl⟩;have hl0:cs0.length=i*5:=by rw[hcs0,bS,dn];omega
 have hc0:∀ j,j<i*5->cs0[j]? = row[off+j]?:=λj hj=>by rw[hcs0,eB,I_ hj,e8];simp
 obtain⟨cs1,hcs1⟩:∃ cs1,cs1=(row.toList.drop (off+i*5)).take ((n-i)*5):=⟨_,rfl⟩;have hl1:cs1.length=(n-i)*5:=by rw[hcs1,bS,dn];omega
 have hc1:∀ j,j<(n-i)*5->cs1[j]? = row[off+i*5+j]?:=λj hj=>by rw[hcs1,eB,I_ hj,e8];simp
 have hik:i+(n+m-i)=n+m:=o_
 have hold:(Builtin.firstCells i0.size i (.slice (some ⟨b,off,none⟩) i c)).run Tryz.prog w.drew=.ok cs0.toArray w.drew:=by
  rw[hs0];exact run_firstCells_some w.drew 5 i ⟨b,off,none⟩ i c cs0 hl0 (λj v hj=>by have hj2:j<cs0.length:=(List.getElem?_eq_some_iff.1 hj).1;rw[Addr.add_lit,<-hj,hc0 j o_];show w.cell? _=_;simp[World.cell?,hg])
 have hkk:(n:Int)+(m:Int)-(i:Int)=((n+m-i:Nat):Int):=o_
 have hrz:∀ ty,(Builtin.append_ #[44,3] ty #[.slice (some ⟨b,off,none⟩) i c,.int .i64 ((n:Int)+(m:Int)-(i:Int))]).run Tryz.prog w =
  .ok (.slice (some ⟨w.heap.size,0,none⟩) (n+m) (grownCap w (n+m) c 181)) (w.drew.alloc (.cells (cs0.toArray++Builtin.zeroCells z0.cells (n+m-i)++Builtin.zeroCells z0.cells (grownCap w (n+m) c 181-(n+m))) 181)):=λty=>by
  have h:=Lib.run_append_grow_zeros w 44 3 ty 181 i0 z0 .i64 .i64 u66 u3 hi0 hz0 (some ⟨b,off,none⟩) i c cs0 hold (n+m-i) o_ o_ o_ o_ (by rw[hb0];omega) (by rw[hb0,hik];exact growslice_fits hroom o_);rw[hik] at h;rw[hkk];exact h
 obtain⟨cc,hcc⟩:∃ cc,cc=grownCap w (n+m) c 181:=⟨_,rfl⟩;have hge:n+m<=cc:=by rw[hcc];exact grownCap_ge w _ _ _
 obtain⟨R0,hR0⟩:∃ R,R=cs0.toArray++Builtin.zeroCells z0.cells (n+m-i)++Builtin.zeroCells z0.cells (cc-(n+m)):=⟨_,rfl⟩;rw[<-hcc,<-hR0] at hrz;have hRs:R0.size=cc*5:=by rw[hR0];simp only[Array.size_append,size_zeroCells,List.size_toArray,hl0,hzc];omega
 have hR0c:∀ x,x<i*5->R0[x]? = row[off+x]?:=λx hx=>by rw[hR0,Array.append_assoc,Array.getElem?_append_left (by simp[hl0];omega)];rw[List.getElem?_toArray,hc0 x hx]
 have hcc63:cc<=9223372036854775807:=by have:=grownCap_le_maxLen w (n+m) c 181 (by unfold maxLen;omega);rw[<-hcc] at this;unfold maxLen at this;omega
 obtain⟨w1,hw1⟩:∃ w1,w1=w.drew.alloc (.cells R0 181):=⟨_,rfl⟩;rw[<-hw1] at hrz;have hn1:Neu w w1:=by rw[hw1];exact(Neu.refl w).drew.alloc _
 have hg1:w1.heap[w.heap.size]? = some (.cells R0 181 (0,0)):=by rw[hw1];exact heap_alloc_new w.drew _
 obtain⟨R1,hR1⟩:∃ r,r=(R0.toList.take (i*5)++vs++R0.toList.drop (i*5+vs.length)).toArray:=⟨_,rfl⟩;have hR1s:R1.size=R0.size:=by rw[hR1];simp only[List.size_toArray,al,bS,dn,cW];omega
 have hcp1:∀ ty dc,(Builtin.copy_ #[44,44] ty #[.slice (some ⟨w.heap.size,i*5,none⟩) (n+m-i) dc,.slice (some ⟨vb,voff,none⟩) m vc]).run Tryz.prog w1=.ok (goInt m) (w1.setRow w.heap.size R1):=λty dc=>by
  have hmin:Nat.min m (n+m-i)=m:=by show min _ _=_;omega
  have:=AdL (P:=Tryz.prog) w1 44 44 ty 181 w.heap.size (i*5) (n+m-i) dc ⟨vb,voff,none⟩ m vc 5 R0 181 vs u66 z224 hg1 (by rw[hmin];exact hvl)
   (λj v hj=>by have:=hvs j v hj;rw[Addr.add_lit];rw[World.cell?] at this ⊢;rw[hn1.old vb hlv];exact this) o_ h1v
  rw[hmin,<-hR1] at this;exact this
 obtain⟨w2,hw2⟩:∃ w2,w2=w1.setRow w.heap.size R1:=⟨_,rfl⟩;have hg2:w2.heap[w.heap.size]? = some (.cells R1 181 (0,0)):=by rw[hw2];exact setRow_heap w1 w.heap.size R0 R1 181 (0,0) hg1
 rw[<-hw2] at hcp1;have hb2:w2.drew.heap[b]? = some (.cells row e (0,0)):=by show w2.heap[b]? = _;rw[hw2,setRow_other w1 _ b R1 o_,hn1.old b hbw,hg]
 obtain⟨R2,hR2⟩:∃ r,r=(R1.toList.take ((i+m)*5)++cs1++R1.toList.drop ((i+m)*5+cs1.length)).toArray:=⟨_,rfl⟩;have hR2s:R2.size=R0.size:=by rw[hR2];simp only[List.size_toArray,al,bS,dn,cW];omega
 have hcp2:∀ ty dc sc,(Builtin.copy_ #[44,44] ty #[.slice (some ⟨w.heap.size,(i+m)*5,none⟩) (n+m-(i+m)) dc,.slice (some ⟨b,off+i*5,none⟩) (n-i) sc]).run Tryz.prog w2.drew=.ok (goInt (n-i:Nat)) (w2.drew.setRow w.heap.size R2):=λty dc sc=>by
  have hmin:Nat.min (n-i) (n+m-(i+m))=n-i:=by show min _ _=_;omega
  have:=AdL (P:=Tryz.prog) w2.drew 44 44 ty 181 w.heap.size ((i+m)*5) (n+m-(i+m)) dc ⟨b,off+i*5,none⟩ (n-i) sc 5 R1 181 cs1 u66 z224 hg2 (by rw[hmin];exact hl1)
   (λj v hj=>by have hj2:j<cs1.length:=(List.getElem?_eq_some_iff.1 hj).1;rw[Addr.add_lit,<-hj,hc1 j o_];simp[World.cell?,hb2]) o_
   (λv hv=>by obtain⟨j,hj⟩:=List.getElem?_of_mem hv;have hj2:j<cs1.length:=(List.getElem?_eq_some_iff.1 hj).1;rw[hc1 j o_] at hj;exact h1c (i*5+j) v o_ (by rw[<-hj];congr 1;omega))
  rw[hmin,<-hR2] at this;exact this
 have hr0l:R0.toList.length=R0.size:=cW;have hr1l:R1.toList.length=R1.size:=cW;have hins:insRow row off n m i vs 0 R2:=by
  intro x hx;rw[cx];have e1:R2[x]? = if x<(i+m)*5 then R1[x]? else if x<(i+m)*5+cs1.length then cs1[x-(i+m)*5]? else R1[x]?:=by rw[hR2,List.getElem?_toArray,Ig o_];simp
  have e2:R1[x]? = if x<i*5 then R0[x]? else if x<i*5+vs.length then vs[x-i*5]? else R0[x]?:=by rw[hR1,List.getElem?_toArray,Ig o_];simp
  rw[e1];by_cases h1:x<i*5
  ·rw[I_ o_,I_ h1,e2,I_ h1,hR0c x h1]
  ·rw[J_ h1];by_cases h2:x<(i+m)*5
   ·rw[I_ h2,I_ h2,e2,J_ h1,I_ o_]
   ·rw[J_ h2,J_ h2,I_ o_,hc1 _ o_];congr 1;omega
 have hN:Neu w (w2.drew.setRow w.heap.size R2):=⟨hn1.os▸(by rw[hw2];rfl),hn1.tape▸(by rw[hw2];rfl),hn1.output▸(by rw[hw2];rfl),(by rw[hw2];exact hn1.drawn.trans (DrLe.succ _)),(by
  have:=hn1.size;have e1:(w2.drew.setRow w.heap.size R2).heap.size=w2.heap.size:=by simp[World.setRow]
  have e2:w2.heap.size=w1.heap.size:=by rw[hw2];simp[World.setRow]
  omega),λg hgl=>by rw[setRow_other w2.drew _ g R2 o_];show w2.heap[g]? = _;rw[hw2,setRow_other w1 _ g R1 o_];exact hn1.old g hgl⟩
 have hg3:(w2.drew.setRow w.heap.size R2).heap[w.heap.size]? = some (.cells R2 181 (0,0)):=setRow_heap w2.drew w.heap.size R1 R2 181 (0,0) hg2;have hwi:IntKind.i64.wrap ((i:Int)+(m:Int))=(i:Int)+(m:Int):=by rw[IntKind.wrap_i64];omega
 have hb1:(0:Int)<=(i:Int)+(m:Int):=o_
 have hin:i<=n:=o_
 have htn:((i:Int)+(m:Int)).toNat=i+m:=o_
 have hGi:¬ (cc=i):=o_
 have hGim:¬ (cc=i+m):=o_
 have hci:¬ (c=i):=o_
 have hb3:(i:Int)<=(n:Int):=o_
 clear hcc hr1l hr0l hR2 hR1 hg2 hg1 hw2 hw1 hb2 hR0 hold hkk hik hcs0 hc0 hl0 hcs1 hc1 hl1 hrl hR0c;have mixed:Tryz.prog.follows Departure.mixedOrders=true:=k_
 go_enter func330,Tryz.ntmps330
 go_wp2_with (first
  | (at_builtin;refine Lib.wpList_append_run _ rfl _ _ _ _ rfl _ _ rfl rfl _ _ (hrz _) ?_)
  | (at_builtin;refine Aeq _ rfl _ _ 44 44 rfl _ _ rfl rfl (hcp1 _ _) ?_))
 go_region_law_o (refine AeA rfl _ _ 44 44 rfl (.slice (some ⟨w.heap.size,(i+m)*5,none⟩) (n+m-(i+m)) (cc-(i+m))) (.slice (some ⟨b,off+i*5,none⟩) (n-i) (c-i)) (by simp[Act.eval,Act.put]) (by simp[Act.eval,Act.put]) (hcp2 44 (cc-(i+m)) (c-i)) ?_)
 go_wp2
 go_ret
 exact⟨cc,R2,hge,o_,rfl,hN,hg3,hins⟩
abbrev Af7:GS:=⟨[.g (.sl .module),.l (.v (.el .int)),.g (.sl .module)],[.sl .module],λ(x:fp)=>x.1.length<=1100000000000/\0<=x.2.1/\x.2.1<=x.1.length/\x.2.2.1.length=1,λ(x:fp)=>((x.1.take x.2.1.toNat++x.2.2.1++x.1.drop x.2.1.toNat,()),(()))⟩
open Go.RowKit in
def ZO (w:World) (n:Nat) (ad:Option Addr) (c:Nat) (a:Addr) (m vc:Nat) (hm:0<m) (v':Value) (w':World) (hr:∀ ty,(Builtin.append_ #[44,44] ty #[.slice ad n c,.slice (some a) m vc]).run Tryz.prog w=.ok v' w') (hc:n<=c) :
 Calls Tryz.prog 330 #[.slice ad n c,.int .i64 n,.slice (some a) m vc] w λe w''=>e=.returned v'/\w''=w':=by
 have u66:Tryz.prog.underlying 44=some (.slice 181):=k_
 have hz1:¬ ((m:Int)=0):=o_
 cases ad with
 | none=>
  go_enter func330,Tryz.ntmps330
  go_wp2_with (at_builtin;refine Lib.wpList_append_run _ rfl _ _ _ _ rfl _ _ rfl rfl _ _ (hr _) ?_)
  all_goals (go_ret;exact⟨rfl,rfl⟩)
 | some b=>
  go_enter func330,Tryz.ntmps330
  go_wp2_with (at_builtin;refine Lib.wpList_append_run _ rfl _ _ _ _ rfl _ _ rfl rfl _ _ (hr _) ?_)
  all_goals (go_ret;exact⟨rfl,rfl⟩)
open Go.RowKit in
def AhV {w w':World} {xs ys:List Y_} {i n:Nat} (hn:xs.length=n) (hy:ys.length=1) (hi:i<=n) {us vs:List Value} {G1 G2:Nat->Nat->Nat->Prop} (hul:us.length=n*5) (hvl:vs.length=5)
 (h1:∀ i',i'<n->∀ j,j<5->∃ u,us[i'*5+j]? = some u/\TO w (fcC (cell .module xs i' j)) u (G1 i' j)) (h2:∀ i',i'<1->∀ j,j<5->∃ u,vs[i'*5+j]? = some u/\TO w (fcC (cell .module ys i' j)) u (G2 i' j)) :
 ∀ i',i'<n+1->∀ j,j<5->∃ u,(us.take (i*5)++vs++us.drop (i*5))[i'*5+j]? = some u/\TO w' (fcC (cell .module (xs.take i++ys++xs.drop i) i' j)) u (λ_=>False):=by
 have flat:∀ (zs:List Y_) (k j:Nat) (u:Value) (F:Nat->Prop),j<5->TO w (fcC (cell .module zs k j)) u F->TO w' (fcC (cell .module zs k j)) u (λ_=>False):=by intro zs k j u F hj h;obtain⟨u2,e2⟩:=FX (t:=.module) rfl zs k j hj;rw[e2] at h ⊢;exact h
 have tl:(us.take (i*5)).length=i*5:=by rw[bS];omega
 have tx:(xs.take i).length=i:=by rw[bS];omega
 have same:∀ (l1:List Y_) (k k2:Nat) (bs:List Y_),l1.getD k default=bs.getD k2 default->∀ j,cell .module l1 k j=cell .module bs k2 j:=λl1 k k2 bs e j=>by unfold cell;rw[e]
 intro k hk j hj;by_cases c1:k<i
 ·obtain⟨u,e1,e2⟩:=h1 k o_ j hj;refine⟨u,?_,?_⟩
  ·rw[bB,cB o_,eB,I_ o_,e1]
  ·rw[same _ k k xs (by rw[cd,cd,bB,cB o_,eB,I_ c1]) j];exact flat _ _ _ _ _ hj e2
 ·by_cases c2:k=i
  ·obtain⟨u,e1,e2⟩:=h2 0 o_ j hj;refine⟨u,?_,?_⟩
   ·rw[bB,cD o_,tl,cB o_,<-e1];congr 1;omega
   ·rw[same _ k 0 ys (by rw[cd,cd,bB,cD o_,tx,cB o_];congr 2;omega) j];exact flat _ _ _ _ _ hj e2
  ·obtain⟨u,e1,e2⟩:=h1 (k-1) o_ j hj;refine⟨u,?_,?_⟩
   ·rw[bB,cD o_,tl,cD o_,hvl,e8,<-e1];congr 1;omega
   ·rw[same _ k (k-1) xs (by rw[cd,cd,bB,cD o_,tx,cD o_,hy,e8];congr 2;omega) j];exact flat _ _ _ _ _ hj e2
open Go.RowKit in
def InsEnd (w:World) (lab:Nat->Prop) (n:Nat) (L:List Value) (e:Ending) (w':World):Prop :=
 ∃ g o c row t,e=.returned (.slice (some ⟨g,o,none⟩) (n+1) c)/\n+1<=c/\o+c*5<=row.size/\w'.heap[g]? = some (.cells row t (0,0))/\(lab g\/w.heap.size<=g)/\g<w'.heap.size/\Onward w w'/\(∀ b,b<w.heap.size->¬ lab b->w'.heap[b]? = w.heap[b]?)/\∀ x,x<(n+1)*5->row[o+x]? = L[x]?
open Go.RowKit in
def lt_of_heap {w:World} {g:Nat} {x:Obj} (h:w.heap[g]? = some x):g<w.heap.size:=by
 grind
open Go.RowKit in
def N8 {row row':Array Value} {off o n i:Nat} {us vs:List Value} (hul:us.length=n*5) (hvl:vs.length=5) (hi:i<=n) (hu:∀ x,x<n*5->row[off+x]? = us[x]?) (h:insRow row off n 1 i vs o row') :
 ∀ x,x<(n+1)*5->row'[o+x]? = (us.take (i*5)++vs++us.drop (i*5))[x]?:=by
 intro x hx;have tl:(us.take (i*5)).length=i*5:=by rw[bS];omega
 rw[h x hx,bB];by_cases c1:x<i*5
 ·rw[I_ c1,cB o_,eB,I_ c1,hu x o_]
 ·rw[J_ c1,cD o_,tl];by_cases c2:x<(i+1)*5
  ·rw[I_ c2,cB o_]
  ·rw[J_ c2,cD o_,hvl,e8,show off+x-1*5=off+(x-5) from o_,hu _ o_];congr 1;omega
open Go.RowKit in
def Afx (w:World) (ow:Nat->Own) (hlt:∀ g,ow g≠.gone->g<w.heap.size) (xs ys:List Y_) (i:Nat) (sv vv:Value) (hn:xs.length<=1100000000000) (hi:i<=xs.length) (hy:ys.length=1)
 (hs:TO w (.sl 5 xs.length λa b=>fcC (cell .module xs a b)) sv λg=>ow g=.lab 0) (hv:TO w (.sl 5 1 λa b=>fcC (cell .module ys a b)) vv λg=>ow g=.lab 128) :
 Calls Tryz.prog 330 #[sv,.int .i64 i,vv] w λe w'=>∃ v',e=.returned v'/\v'.oneCell'=true/\Onward w w'/\(∀ b,b<w.heap.size->ow b≠.lab 0->w'.heap[b]? = w.heap[b]?) /\
  TO w' (.sl 5 (xs.length+1) λa b=>fcC (cell .module (xs.take i++ys++xs.drop i) a b)) v' (λb=>b<w'.heap.size/\(ow b=.lab 0\/w.heap.size<=b)):=by
 obtain⟨n,hnn⟩:∃ n,xs.length=n:=⟨_,rfl⟩;rw[hnn] at hs hi hn ⊢;have i224:(Tryz.prog.info? 181).map (λi=>(i.size,i.bytes,i.zero.map (·.cells.size)))=some (5,64,some 5):=k_
 have u66:Tryz.prog.underlying 44=some (.slice 181):=k_
 obtain⟨i0,z0,hi0,hz0,hs0,hb0,hzc⟩:∃ i z,Tryz.prog.info? 181=some i/\i.zero=some z/\i.size=5/\i.bytes=64/\z.cells.size=5:=by
  cases hq:Tryz.prog.info? 181 with
  | none=>rw[hq] at i224;simp at i224
  | some j=>
   rw[hq] at i224;simp only[aY,P_,bW] at i224;obtain⟨a1,a2,a3⟩:=i224;cases hz:j.zero with
   | none=>rw[hz] at a3;simp at a3
   | some z=>rw[hz] at a3;exact⟨j,z,rfl,hz,a1,a2,by simpa using a3⟩
 obtain⟨us,G1,hus,hu1,hu2,hus1,hud,hub⟩:=Wl (P:=Tryz.prog) (by decide) hs;obtain⟨vs,G2,hvs,hv1,hv2,hvs1,hvd,hvb⟩:=Wl (P:=Tryz.prog) (by decide) hv;have hul:=hus.len;have hvl:vs.length=5:=hvs.len;have hvv:∃ g o c,vv=.slice (some ⟨g,o,none⟩) 1 c/\1<=c:=by
  rcases hv with⟨_,h⟩|⟨g,o,c,row,e,GG,h,hc,_⟩
  ·omega
  ·exact⟨g,o,c,h,hc⟩
 obtain⟨vb,voff,vc,rfl,hvc⟩:=hvv;obtain⟨hvow,vrow,ve,hvg,hvn,hvcap,hvrow,_⟩:=hvb vb voff vc rfl o_;have hlv:=lt_of_heap hvg;have hvcell:∀ j v,vs[j]? = some v->w.cell? ⟨vb,voff+j,none⟩=some v:=λj v hj=>by have hj2:j<vs.length:=(List.getElem?_eq_some_iff.1 hj).1;rw[<-hj,<-hvrow j o_];simp[World.cell?,hvg]
 have key:∀ e w',InsEnd w (λg=>ow g=.lab 0) n (us.take (i*5)++vs++us.drop (i*5)) e w'->∃ v',e=.returned v'/\v'.oneCell'=true/\Onward w w'/\(∀ b,b<w.heap.size->ow b≠.lab 0->w'.heap[b]? = w.heap[b]?) /\
  TO w' (.sl 5 (n+1) λa b=>fcC (cell .module (xs.take i++ys++xs.drop i) a b)) v' (λb=>b<w'.heap.size/\(ow b=.lab 0\/w.heap.size<=b)):=by
  rintro e w' ⟨g,o,c,row,t,rfl,h1,h2,h3,h4,h5,h6,h7,h8⟩;refine⟨_,rfl,rfl,h6,λb hb hl=>h7 b hb hl,.inr ⟨g,o,c,row,t,λ_ _ _=>False,rfl,h1,h2,h3,⟨h5,h4⟩,?_,by simp,by simp⟩⟩;intro k hk j hj;obtain⟨u,e1,e2⟩:=AhV (w':=w') hnn hy hi hul hvl hu2 hv2 k hk j hj;exact⟨u,by rw[Nat.add_assoc,h8 _ o_];exact e1,e2⟩
 have Acq:∀ (ad:Option Addr) (c:Nat),sv=.slice ad n c->c<n+1->n<=c->i=n->Calls Tryz.prog 330 #[sv,.int .i64 i,.slice (some ⟨vb,voff,none⟩) 1 vc] w (InsEnd w (λg=>ow g=.lab 0) n (us.take (i*5)++vs++us.drop (i*5))):=by
  intro ad c hsv hc hnc hin;subst hsv hin;have hr:=λty=>HN (P:=Tryz.prog) 44 ty 181 i0 z0 u66 hi0 hz0 ad i c us (by rw[hs0];exact hus) (.slice (some ⟨vb,voff,none⟩) 1 vc) 1 vs (by rw[hs0];exact hvs) hc o_ (by rw[hb0];omega)
  refine(ZO w i ad c ⟨vb,voff,none⟩ 1 vc (by decide) _ _ hr hnc).mono ?_;rintro e w' ⟨rfl,rfl⟩;have hge:=grownCap_ge w (i+1) c 181;refine⟨w.heap.size,0,_,_,_,rfl,hge,?_,heap_alloc_new w.drew _,.inr (aa _),by simp,⟨rfl,rfl,⟨rfl,by first|exact DrLe.refl _|exact DrLe.succ _|exact DrLe.add _ _⟩,by simp⟩,λb hb _=>heap_alloc_old w.drew _ hb,?_⟩
  ·simp only[List.size_toArray,al,cW,size_zeroCells,hzc];omega
  ·intro x hx;rw[cx,List.getElem?_toArray,cB (by rw[al];omega),ct o_,bR o_,cF]
 rcases hs with⟨⟨ad,hsv⟩,hn0⟩|⟨b,off,c,row,e,GG,hsv,hnc,hcap,hg,hF,hrow,hsub,hdis⟩
 ·exact(Acq ad 0 (by rw[hsv,hn0]) o_ o_ o_).mono key
 ·by_cases hroom:n+1<=c
  ·obtain⟨_,row2,e2,hg2,_,_,hrw,_⟩:=hub b off c hsv o_;rw[hg] at hg2;injection hg2 with hg2
   injection hg2 with q1 q2
   subst q1;have hne:vb≠b:=by rintro rfl;rw[hF] at hvow;cases hvow
   by_cases hin:i=n
   ·subst hin;subst hsv;have hr:=λty=>HZ (P:=Tryz.prog) 44 ty 181 i0 u66 hi0 b off i c row e hg (.slice (some ⟨vb,voff,none⟩) 1 vc) 1 vs (by rw[hs0];exact hvs) hv1 hroom (by rw[hs0];omega)
    refine((ZO w i (some ⟨b,off,none⟩) c ⟨vb,voff,none⟩ 1 vc (by decide) _ _ hr hnc).mono ?_).mono key;rintro e' w' ⟨rfl,rfl⟩;refine⟨b,off,c,_,e,rfl,hroom,?_,setRow_heap w b row _ e _ hg,.inl hF,by simp[World.setRow];exact lt_of_heap hg,⟨rfl,rfl,⟨rfl,by first|exact DrLe.refl _|exact DrLe.succ _|exact DrLe.add _ _⟩,by simp[World.setRow]⟩,λb' hb' hl=>setRow_other w b b' _ (by rintro rfl;exact hl hF),?_⟩
    ·simp only[List.size_toArray,al,bS,dn,cW,hs0];omega
    ·intro x hx;have hrl:row.toList.length=row.size:=cW;rw[List.getElem?_toArray,hs0,Ig o_,ct o_,bR o_,cF];by_cases c1:x<i*5
     ·rw[I_ o_,cB o_,<-hrw x c1];simp
     ·rw[J_ o_,I_ o_,cD o_];congr 1;omega
   ·subst hsv;have h1c:∀ x v,x<n*5->row[off+x]? = some v->v.oneCell'=true:=λx v hx h=>hu1 v (by rw[hrw x hx] at h;exact fu h)
    refine((Acl w b off n c i vb voff 1 vc row e vs hg hcap o_ (by decide) hroom o_ hvl hne hvcell hv1 h1c ve vrow.size (by simp[World.shape?,hvg]) (by simp[World.frozen?,hvg]) (by simp[World.frozen?,hvg])).mono ?_).mono key;rintro e' w' ⟨rfl,row',rfl,hsz,hins⟩;exact⟨b,off,c,row',e,rfl,hroom,o_,setRow_heap w.drew b row row' e _ hg,.inl hF,by simp[World.setRow];exact lt_of_heap hg,⟨rfl,rfl,⟨rfl,by first|exact DrLe.refl _|exact DrLe.succ _|exact DrLe.add _ _⟩,by simp[World.setRow]⟩,λb' hb' hl=>setRow_other w.drew b b' _ (by rintro rfl;exact hl hF),N8 hul hvl hi hrw hins⟩
  ·by_cases hin:i=n
   ·exact(Acq (some ⟨b,off,none⟩) c hsv o_ hnc hin).mono key
   ·obtain⟨_,row2,e2,hg2,_,_,hrw,_⟩:=hub b off c hsv o_;rw[hg] at hg2;injection hg2 with hg2
    injection hg2 with q1 q2
    subst q1;have hne:vb≠b:=by rintro rfl;rw[hF] at hvow;cases hvow
    subst hsv;have h1c:∀ x v,x<n*5->row[off+x]? = some v->v.oneCell'=true:=λx v hx h=>hu1 v (by rw[hrw x hx] at h;exact fu h)
    refine((AcK w b off n c i vb voff 1 vc row e vs hg hnc hcap o_ (by decide) o_ o_ hvl hne hlv hvcell hv1 h1c).mono ?_).mono key;rintro e' w' ⟨c',row',k1,k2,rfl,k3,k4,k5⟩;exact⟨w.heap.size,0,c',row',181,rfl,k1,o_,k4,.inr (aa _),lt_of_heap k4,⟨k3.os,k3.tape,⟨k3.output,k3.drawn⟩,k3.size⟩,λb' hb' _=>k3.old b' hb',N8 hul hvl hi hrw k5⟩
def All:=An7.G Af7<|by
 rintro⟨(xs:List Y_),(i:Int),(ys:List Y_),⟨⟩⟩ hx w vs G hB hA;obtain⟨hx1,hx2,hx3,hx4⟩:=(show xs.length<=1100000000000/\0<=i/\i<=xs.length/\ys.length=1 from hx);obtain⟨j,rfl⟩:∃ j:Nat,i=j:=⟨i.toNat,o_⟩;obtain⟨v0,e0,c0,hc0,r0⟩:=hA.tm 0 (.v false [.ref 0]) rfl;obtain⟨v1,e1,c1,hc1,r1⟩:=hA.tm 1 (.v false [.sc (.int .i64 j)]) rfl;obtain⟨v2,e2,c2,hc2,r2⟩:=hA.tm 2 (.v false [.ref 128]) rfl;injection hc0 with hc0
 injection hc1 with hc1
 injection hc2 with hc2
 subst hc0 hc1 hc2;have r0:v0=G.hv 0/\v0.oneCell'=true:=r0;have r1:v1=.int .i64 j/\_:=r1;have r2:v2=G.hv 128/\v2.oneCell'=true:=r2;have hs:TO w (.sl 5 xs.length λa b=>fcC (cell .module xs a b)) (G.hv 0) (λg=>G.ow g=.lab 0):=hA.hp 0 ⟨.module,xs⟩ rfl;have hv:TO w (.sl 5 ys.length λa b=>fcC (cell .module ys a b)) (G.hv 128) (λg=>G.ow g=.lab 128):=hA.hp 128 ⟨.module,ys⟩ rfl;rw[hx4] at hv;have hvs:vs = #[v0,v1,v2]:=by
  apply Array.ext_getElem?;intro k;have hsz:vs.size=3:=hA.sz
  match k with
  | 0=>exact e0
  | 1=>exact e1
  | 2=>exact e2
  | k+3=>rw[Array.getElem?_eq_none o_,Array.getElem?_eq_none (by simp)]
 rw[hvs,r0.1,r1.1,r2.1];refine(Afx w G.ow hA.lt xs ys j _ _ hx1 o_ hx4 hs hv).mono ?_;rintro e w' ⟨v',rfl,h1,h2,h3,h4⟩;have hlen:(xs.take j++ys++xs.drop j).length=xs.length+1:=by simp only[al,bS,dn];omega
 have hgone:∀ b,w.heap.size<=b->G.ow b=.gone:=by
  intro b hb1;cases hq:G.ow b with
  | gone=>rfl
  | _=>exact absurd (hA.lt b (by simp[hq])) o_
 refine⟨v',_,rfl,rfl,h2,λg hg=>h3 g (hA.lt g (by simp[hg])) (by simp[hg]),λg hg=>(hA.cr g hg).same (h3 g (hA.lt g (by simp[hg])) (by simp[hg])),λp b=>p=.res 0 0/\b<w'.heap.size/\(G.ow b=.lab 0\/w.heap.size<=b),?_,?_,?_,?_,?_⟩
 ·rintro s b ⟨_,k1,k2⟩;refine⟨k1,?_,λb0 hb0=>by cases hb0⟩;rcases k2 with k2|k2
  ·rw[k2];exact⟨by simp,by simp⟩
  ·rw[hgone b k2];exact⟨by simp,by simp⟩
 ·rintro s s' b ⟨rfl,_⟩ ⟨rfl,_⟩;rfl
 ·refine⟨_,rfl,?_,h1⟩;show TO w' (fcC (.l .module (xs.take j++ys++xs.drop j))) v' λb=>Pl.res 0 0=Pl.res 0 0/\b<w'.heap.size/\(G.ow b=.lab 0\/w.heap.size<=b);rw[Fo,hlen];have:(λb=>Pl.res 0 0=Pl.res 0 0/\b<w'.heap.size/\(G.ow b=.lab 0\/w.heap.size<=b))=λb=>b<w'.heap.size/\(G.ow b=.lab 0\/w.heap.size<=b):=by funext b;simp
  rw[this];exact h4
 ·intro l T hl;cases hl
 ·intro b cs hb;cases hb
def WO (f:Y_->Y_) (m:Y_) (B:List Y_):∀ A:List Y_,(A++[m]++B).modify A.length f=A++[f m]++B
 | []=>rfl
 | a::A=>congrArg (List.cons a) (WO f m B A)
def Afl {l:List Y_} {i:Nat} {m:Y_} (f:Y_->Y_) (h:i<=l.length):(l.take i++[m]++l.drop i).modify i f=l.take i++[f m]++l.drop i:=by
 have e:(l.take i).length=i:=by rw[bS];omega
 have:=WO f m (l.drop i) (l.take i)
 rwa [e] at this
def AgS {l:List Y_} {i:Nat} {m:Y_} (h:i<=l.length):(l.take i++[m]++l.drop i).getD i default=m:=by
 simp_all
def AaV {l:List Y_} {i:Nat} {m:Y_} (h:i<=l.length):(l.take i++[m]++l.drop i).length=l.length+1:=by
 grind
def Age {p:C_} {a:D_} {i:Nat} (h:askFrom a p.bh=i) (h0:i<=p.bh.length) (h1:i=p.bh.length\/¬ (p.bh.getD i default).to=a) (m:Y_) (hm:m=newMod p a):askModule p a={ p with bh:=p.bh.take i++[m]++p.bh.drop i }:=by
 rw[AaX h h0 h1 m hm,Aeo h0,bB];rfl
abbrev B1 (p:C_) (a:D_):LInv:=⟨[⟨.s,6,true,.el .int⟩,⟨.b,2,false,.el .page⟩,⟨.b,3,true,.el .addr⟩,⟨.b,4,true,.el .page⟩,⟨.b,5,true,.el .page⟩],λ(z x:ck)=>((((0<=x.1/\x.1<=p.bh.length/\x.1+askFrom a (p.bh.drop x.1.toNat)=askFrom a p.bh)/\x.2.1=z.2.1)/\x.2.2.1=z.2.2.1)/\x.2.2.2.1=z.2.2.2.1)/\x.2.2.2.2.1=z.2.2.2.2.1,λ(x:ck)=>p.bh.length-x.1.toNat⟩
def Al8:=All.a Bi<|Fct.p (KP [2,3,4,5,6] [24,41,57]) (λ⟨p,a,_⟩=>lv [(3,B1 p a)]) All.2 func228 (by
 rintro⟨(p:C_),(a:D_),_⟩ hp;refine ho (let U_:=List Y_;.cl AA (p,()) λz2=>lpx (B1 p a) ((0:Int),(p,(a,(default,(z2.1,()))))) λ(y2:ck) bk2=>let aU:Out:=.lf Bi (y2.2.2.2.2.1,());let aC:=inB y2.1 y2.2.1.bh.length;let aj:=y2.2.1.bh.getD y2.1.toNat default;let Q_:=decide (y2.1<(y2.2.1.bh.length:Int));let H_:=aj.to.host==y2.2.2.1.host&&(aj.to.path==y2.2.2.1.path&&true);let E_:=(⟨y2.2.2.1,false,(0:Int),(⟨#[]⟩:ByteArray)⟩:Y_);let M_:=Af7.fn (y2.2.2.2.2.1.bh,y2.1,[E_],());let L_:=Af7.pre (y2.2.2.2.2.1.bh,y2.1,[E_],());.br Q_ (.ob aC<|.cl BH (aj.to,y2.2.2.1,()) λ(z3:B_)=>.br (decide (z3.1<0)) (.bk (bk2 (w1 y2.1,(y2.2.1,(y2.2.2.1,(y2.2.2.2.1,(y2.2.2.2.2.1,()))))))) (.br Q_ (.ob aC<|.br H_ aU (.ob L_<|.lt _ M_ λz4=>.cl Bo (({y2.2.2.2.2.1 with bh:=z4.1.1}:C_),y2.1,()) λz5=>.cl Ay (y2.2.1.bj,z5.1,()) λ(z6:B_)=>.br (z6.1 != 1) (.ix y2.1 z4.1.1.length<|.lt U_ (z4.1.1.modify y2.1.toNat λz=>({z with done:=true}:Y_)) λz7=>.ix y2.1 z7.length<|.lt U_ (z7.modify y2.1.toNat λz=>({z with code:=(2:Int)}:Y_)) λz8=>.lf Bi ({y2.2.2.2.2.1 with bh:=z8},())) (.lf Bi ({y2.2.2.2.2.1 with bh:=z4.1.1},())))) (.ob L_<|.lt _ M_ λz9=>.cl Bo (({y2.2.2.2.2.1 with bh:=z9.1.1}:C_),y2.1,()) λz10=>.cl Ay (y2.2.1.bj,z10.1,()) λ(z11:B_)=>.br (z11.1 != 1) (.ix y2.1 z9.1.1.length<|.lt U_ (z9.1.1.modify y2.1.toNat λz=>({z with done:=true}:Y_)) λz12=>.ix y2.1 z12.length<|.lt U_ (z12.modify y2.1.toNat λz=>({z with code:=(2:Int)}:Y_)) λz13=>.lf Bi ({y2.2.2.2.2.1 with bh:=z13},())) (.lf Bi ({y2.2.2.2.2.1 with bh:=z9.1.1},()))))) (.br Q_ (.ob aC<|.br H_ aU (.ob L_<|.lt _ M_ λz14=>.cl Bo (({y2.2.2.2.2.1 with bh:=z14.1.1}:C_),y2.1,()) λz15=>.cl Ay (y2.2.1.bj,z15.1,()) λ(z16:B_)=>.br (z16.1 != 1) (.ix y2.1 z14.1.1.length<|.lt U_ (z14.1.1.modify y2.1.toNat λz=>({z with done:=true}:Y_)) λz17=>.ix y2.1 z17.length<|.lt U_ (z17.modify y2.1.toNat λz=>({z with code:=(2:Int)}:Y_)) λz18=>.lf Bi ({y2.2.2.2.2.1 with bh:=z18},())) (.lf Bi ({y2.2.2.2.2.1 with bh:=z14.1.1},())))) (.ob L_<|.lt _ M_ λz19=>.cl Bo (({y2.2.2.2.2.1 with bh:=z19.1.1}:C_),y2.1,()) λz20=>.cl Ay (y2.2.1.bj,z20.1,()) λ(z21:B_)=>.br (z21.1 != 1) (.ix y2.1 z19.1.1.length<|.lt U_ (z19.1.1.modify y2.1.toNat λz=>({z with done:=true}:Y_)) λz22=>.ix y2.1 z22.length<|.lt U_ (z22.modify y2.1.toNat λz=>({z with code:=(2:Int)}:Y_)) λz23=>.lf Bi ({y2.2.2.2.2.1 with bh:=z23},())) (.lf Bi ({y2.2.2.2.2.1 with bh:=z19.1.1},()))))) ?_;repeat' first|(guard_target =~ Out.holds _ _;first|refine Am (li:=B1 p a) ?_ λ(y2:ck) i2=>?_|refine lfY ?_|refine Aa (λ_=>?_) λ_=>?_|refine Ae ?_ λ_=>?_|refine Ab ?_ λ_=>?_|refine DS ?_|refine AR ?_|refine Ei ?_ λ_ _=>?_)|exact trivial
 all_goals (have hl:p.bh.length<=1090000000000:=by have h1:Aj p<=1090000000000:=hp.1;have:=Ac AF p.bh;simp only[Aj] at h1;omega)<;>(have hpo:AQ p.bj<=1090000000000/\p.addr.host.size<=50000000000:=by have h1:Aj p<=1090000000000:=hp.1;have h2:p.addr.host.size<=4000000000:=hp.2.1;simp only[Aj,szAddr] at h1;omega)<;>(try simp only[std,Nat.reduceAdd] at *)<;>(first|trivial|omega|exact⟨o_,o_,by simp⟩|skip)<;>(try obtain⟨⟨⟨⟨⟨a1,a2,a3⟩,e1⟩,e2⟩,e3⟩,e4⟩:=i2;simp only[e1,e2,e3,e4,Ev,aH,ca] at *)<;>have hi:y2.1.toNat<=p.bh.length:=o_<;>(have hr:∀ q:C_,q.bh=p.bh.take y2.1.toNat++[⟨a,false,0,⟨#[]⟩⟩]++p.bh.drop y2.1.toNat->q.addr=p.addr->modRequest q y2.1=⟨5,a,p.addr.host,⟨#[]⟩⟩:=λq h1 h2=>by unfold modRequest;rw[h1,h2,AaV hi,AgS hi,I_ o_])<;>(try simp only[hr,Afl _ hi,AaV hi,fE] at *)<;>(first|trivial|omega|exact⟨o_,by simp only[BE,szAddr] at *;show _+_+0<=_;omega⟩|skip)<;>(first|(have e:=Qd (a:=a) (l:=p.bh) (i:=y2.1.toNat) o_;first|rw[I_ o_] at e|rw[J_ o_] at e)|(have e:=OR (a:=a) (l:=p.bh) (i:=y2.1.toNat) o_))<;>(first|(rw[Ah o_,show(y2.1+1).toNat=y2.1.toNat+1 from o_];simp only[and_true];exact⟨⟨o_,o_,o_⟩,o_⟩)|skip)<;>have e5:askFrom a p.bh=y2.1.toNat:=o_<;>(first|(rw[SD e5 o_ ‹_›];done)|(rw[Age e5 o_ (by first|exact .inr ‹_›|exact .inl o_) _ (by first|exact S1 ‹_›|exact Sp ‹_›)])|skip))
def addEntry (p:C_) (to:ByteArray):C_ :=
 if(parseAddr to p.addr.host).2=true/\p.bg.length<20 then{ askModule p (parseAddr to p.addr.host).1 with bg:=p.bg++[(parseAddr to p.addr.host).1]} else p
def Y5 (p:C_) (a:D_) (l:List D_):askModule { p with bg:=l } a={ askModule p a with bg:=l }:=by
 unfold askModule newMod;split<;>rfl
def Oc (p:C_) (a:D_):(askModule p a).bg=p.bg:=by unfold askModule;split<;>rfl
abbrev GP:Fct:=⟨[.v (.el .page),.v (.el .str)],[.el .page],λ(x:cS)=>Aj x.1<=1050000000000/\x.1.addr.host.size<=4000000000/\x.2.1.size<=4000000000,λ(x:cS)=>(addEntry x.1 x.2.1,())⟩
def AlB:=Al8.a GP<|Fct.o (KP [1,2,4,5,6,7] [23]) Al8.2 func400 (by
 rintro⟨(p:C_),(to:ByteArray),_⟩ hp;refine ho (let E_:Out:=.cl AA (p,()) λz3=>.lf GP (z3.1,());.cl AK (to,p.addr.host,()) λz2=>.br (!z2.2.1) E_ (.br (decide ((p.bg.length:Int)>=20)) E_ (.cl Bi (p,z2.1,()) λz5=>.ap (z5.1.bg.length+[z2.1].length) 32<|.lf GP ({z5.1 with bg:=z5.1.bg++[z2.1]},())))) ?_;refine Ae ?_ λ_=>(Aa (λh2=>Ae ?_ λ_=>lfY ?_) λh2=>Aa (λh4=>Ae ?_ λ_=>lfY ?_) λh4=>Ae ?_ λ_=>Ed ?_ λ_=>lfY ?_)<;>(have hl:szL szAddr p.bg+1<=1050000000001:=by have h1:Aj p<=1050000000000:=hp.1;simp only[Aj] at h1;omega)<;>(have hl2:=Ac szAddr p.bg;have hz:=HP to p.addr.host;have hs:Aj { p with bg:=p.bg++[(parseAddr to p.addr.host).1]}<=Aj p+szAddr (parseAddr to p.addr.host).1+1:=by simp only[Aj,Cr,Ag,show szL szAddr []=0 from rfl];omega)<;>(have ha:szAddr (parseAddr to p.addr.host).1<=16000000000:=by simp only[szAddr];have q1:p.addr.host.size<=4000000000:=hp.2.1;have q2:to.size<=4000000000:=hp.2.2;omega)<;>(try simp only[std,Nat.reduceAdd,Y5,Oc] at *)<;>(first|trivial|omega|skip)<;>unfold addEntry<;>(first|rw[I_ ⟨‹_›,o_⟩]|rw[J_ (by rintro⟨q1,q2⟩;first|omega|(rw[show(parseAddr to p.addr.host).2=false from ‹_›] at q1;cases q1))]))
def AjA:=AlB.a GP<|Fct.o (KP [1,2,4,5,6,7] [25]) AlB.2 func382 (by
 rintro⟨(p:C_),(to:ByteArray),_⟩ hp;refine ho (.cl AA (p,()) λz2=>let E_:Out:=.lf GP (z2.1,());.cl AK (to,p.addr.host,()) λz3=>.br (!z3.2.1) E_ (.br (decide ((p.bg.length:Int)>=20)) E_ (.ap (z2.1.bg.length+[z3.1].length) 32<|.cl Bi (({z2.1 with bg:=z2.1.bg++[z3.1]}:C_),z3.1,()) λz4=>.lf GP (z4.1,())))) ?_;refine Ae ?_ λ_=>(Ae ?_ λ_=>Aa (λh3=>lfY ?_) λh3=>Aa (λh4=>lfY ?_) λh4=>Ed ?_ λ_=>Ae ?_ λ_=>lfY ?_)<;>(have hl:szL szAddr p.bg+1<=1050000000001:=by have h1:Aj p<=1050000000000:=hp.1;simp only[Aj] at h1;omega)<;>(have hl2:=Ac szAddr p.bg;have hz:=HP to p.addr.host;have hs:Aj { p with bg:=p.bg++[(parseAddr to p.addr.host).1]}<=Aj p+szAddr (parseAddr to p.addr.host).1+1:=by simp only[Aj,Cr,Ag,show szL szAddr []=0 from rfl];omega)<;>(have ha:szAddr (parseAddr to p.addr.host).1<=16000000000:=by simp only[szAddr];have q1:p.addr.host.size<=4000000000:=hp.2.1;have q2:to.size<=4000000000:=hp.2.2;omega)<;>(try simp only[std,Nat.reduceAdd,Y5,Oc] at *)<;>(first|trivial|omega|skip)<;>unfold addEntry<;>(first|rw[I_ ⟨‹_›,o_⟩]|rw[J_ (by rintro⟨q1,q2⟩;first|omega|(rw[show(parseAddr to p.addr.host).2=false from ‹_›] at q1;cases q1))]))
def element (p:C_) (t:ao) (n:Int):C_ :=
 if t.name=⟨#[108,105,110,107]⟩/\(findAttr t.bo ⟨#[104,114,101,102]⟩).isSome=true then(addSlot p 2 ((findAttr t.bo ⟨#[104,114,101,102]⟩).getD ⟨#[]⟩) ((findAttr t.bo ⟨#[100,105,103,101,115,116]⟩).getD ⟨#[]⟩) n).1
 else if t.name=⟨#[105,109,103]⟩/\(findAttr t.bo ⟨#[115,114,99]⟩).isSome=true then(addSlot p 1 ((findAttr t.bo ⟨#[115,114,99]⟩).getD ⟨#[]⟩) ((findAttr t.bo ⟨#[100,105,103,101,115,116]⟩).getD ⟨#[]⟩) n).1
 else p
abbrev Ce:GS:=⟨[.g (.el .page),.i 8 (.el .token),.l (.v (.el .int))],[.el .page],λ(x:fq)=>Aj x.1<=1050000000000/\x.1.addr.host.size<=4000000000/\szToken x.2.1<=4000000000,λ(x:fq)=>((element x.1 x.2.1 x.2.2.1,()),(()))⟩
def Al4:=AjA.G Ce<|GS.of (S:=Ce) (L:=λ_ _=>none) (kp:=(KP [2,3,4,6,7,9,10,11,12] [30,50])) AjA.2 func346 k_ k_ (by
 rintro⟨(p:C_),(t:ao),(n:Int),_⟩ hp;refine ho (let Q_:=GS.out Ce ((p,()),(()));let M_:=(⟨#[115,114,99]⟩:ByteArray);let H_:=t.name.toList==(⟨#[105,109,103]⟩:ByteArray).toList;.cl Al (t.bo,(⟨#[100,105,103,101,115,116]⟩:ByteArray),()) λz2=>let E_:Out:=.cl Al (t.bo,M_,()) λz7=>.br (z7.2.1) (.br H_ (.cl Cc (p,(1:Int),z7.1,z2.1,n,()) λ(z8:bH)=>GS.out Ce ((z8.1,()),(()))) Q_) Q_;.cl Al (t.bo,(⟨#[104,114,101,102]⟩:ByteArray),()) λz3=>.br (z3.2.1) (.br (t.name.toList==(⟨#[108,105,110,107]⟩:ByteArray).toList) (.cl Cc (p,(2:Int),z3.1,z2.1,n,()) λ(z4:bH)=>let L_:=GS.out Ce ((z4.1,()),(()));.cl Al (t.bo,M_,()) λz5=>.br (z5.2.1) (.br H_ (.cl Cc (z4.1,(1:Int),z5.1,z2.1,n,()) λ(z6:bH)=>GS.out Ce ((z6.1,()),(()))) L_) L_) E_) E_) ?_;repeat' (guard_target =~ Out.holds _ _;first|refine GS.leafY ?_|refine Aa (λ_=>?_) λ_=>?_|refine Ae ?_ λ_=>?_)
 all_goals (have h1:=AV t.bo ⟨#[104,114,101,102]⟩;have h2:=AV t.bo ⟨#[115,114,99]⟩;have h3:=AV t.bo ⟨#[100,105,103,101,115,116]⟩;have h4:szL BW t.bo<=4000000000/\t.bo.length<=4000000000:=by have q:=hp.2.2;have:=Ac BW t.bo;simp only[szToken] at q;omega)<;>(try simp only[std,Nat.reduceAdd,element] at *)<;>(try simp(disch:=omega) only[FS,A_] at *)<;>(try simp(disch:=omega) only[I_,J_])<;>(first|trivial|omega|grind[FS,A_,HO,G_,F_,maxLen,element]))
def script (p:C_) (n:Int):C_ :=
 if(findAttr (p.ba.bi.getD n.toNat default).bo ⟨#[115,114,99]⟩).isSome=false then(if allowsInline p.bj ((findAttr (p.ba.bi.getD n.toNat default).bo ⟨#[110,111,110,99,101]⟩).getD ⟨#[]⟩)=true then{ p with inline:=n } else p)
 else if(findAttr (p.ba.bi.getD n.toNat default).bo ⟨#[107,105,110,100]⟩).getD ⟨#[]⟩=⟨#[100,101,102,101,114]⟩ then(addSlot p 4 ((findAttr (p.ba.bi.getD n.toNat default).bo ⟨#[115,114,99]⟩).getD ⟨#[]⟩) ((findAttr (p.ba.bi.getD n.toNat default).bo ⟨#[100,105,103,101,115,116]⟩).getD ⟨#[]⟩) n).1
 else if(findAttr (p.ba.bi.getD n.toNat default).bo ⟨#[107,105,110,100]⟩).getD ⟨#[]⟩=⟨#[109,111,100,117,108,101]⟩ then addEntry p ((findAttr (p.ba.bi.getD n.toNat default).bo ⟨#[115,114,99]⟩).getD ⟨#[]⟩)
 else{ (addSlot p 3 ((findAttr (p.ba.bi.getD n.toNat default).bo ⟨#[115,114,99]⟩).getD ⟨#[]⟩) ((findAttr (p.ba.bi.getD n.toNat default).bo ⟨#[100,105,103,101,115,116]⟩).getD ⟨#[]⟩) n).1 with block:=(addSlot p 3 ((findAttr (p.ba.bi.getD n.toNat default).bo ⟨#[115,114,99]⟩).getD ⟨#[]⟩) ((findAttr (p.ba.bi.getD n.toNat default).bo ⟨#[100,105,103,101,115,116]⟩).getD ⟨#[]⟩) n).2+1 }
def EZ (p:C_):szL szToken p.bn+szBuilder p.ba+szL AO p.bf+szL AF p.bh+szL szAddr p.bg+szL szAddr p.ran+szL Af p.log+AQ p.bj+szAddr p.addr<=Aj p:=by simp only[Aj];omega
def My (p:C_) (m:Int) (to d:ByteArray) (n:Int) : -1<=(addSlot p m to d n).2/\(addSlot p m to d n).2<=20:=by
 unfold addSlot;grind
def Mq (l:List cO) (n:Nat) (h:n<l.length):szL BW (l.getD n default).bo<=szL AM l:=by
 have:=C6 AM (l:=l) h;simp only[AM] at *;omega
abbrev Bu:GS:=⟨[.g (.el .page),.l (.v (.el .int))],[.el .page],λ(x:bH)=>Aj x.1<=1050000000000/\x.1.addr.host.size<=4000000000/\szL AM x.1.ba.bi<=4000000000/\0<=x.2.1/\x.2.1<x.1.ba.bi.length,λ(x:bH)=>((script x.1 x.2.1,()),(()))⟩
def Ajx:=Al4.G Bu<|GS.of (S:=Bu) (L:=λ_ _=>none) (kp:=(KP [1,2,4,5,6,7,8,10,12,14,15] [55,61,64,75])) Al4.2 func347 k_ k_ (by
 rintro⟨(p:C_),(n:Int),_⟩ hp;refine ho (let E_:=p.ba.bi.getD (Int.toNat n) default;.ob (inB n p.ba.bi.length)<|.ob (Int.toNat n<p.ba.bi.length)<|.cl Al (E_.bo,(⟨#[115,114,99]⟩:ByteArray),()) λz2=>.cl Al (E_.bo,(⟨#[107,105,110,100]⟩:ByteArray),()) λz3=>.cl Al (E_.bo,(⟨#[100,105,103,101,115,116]⟩:ByteArray),()) λz4=>.cl Al (E_.bo,(⟨#[110,111,110,99,101]⟩:ByteArray),()) λz5=>.br (!z2.2.1) (.cl Cf (p.bj,z5.1,()) λz6=>.br (z6.1) (GS.out Bu (({p with inline:=n},()),(()))) (GS.out Bu ((p,()),(())))) (.br (z3.1.toList==(⟨#[100,101,102,101,114]⟩:ByteArray).toList) (.cl Cc (p,(4:Int),z2.1,z4.1,n,()) λ(z7:bH)=>GS.out Bu ((z7.1,()),(()))) (.br (z3.1.toList==(⟨#[109,111,100,117,108,101]⟩:ByteArray).toList) (.cl GP (p,z2.1,()) λz8=>GS.out Bu ((z8.1,()),(()))) (.cl Cc (p,(3:Int),z2.1,z4.1,n,()) λ(z9:bH)=>GS.out Bu (({z9.1 with block:=w1 z9.2.1},()),(())))))) ?_;repeat' first|(guard_target =~ Out.holds _ _;first|refine GS.leafY ?_|refine Aa (λ_=>?_) λ_=>?_|refine Ae ?_ λ_=>?_|refine Ab ?_ λ_=>?_)|exact trivial
 all_goals (have hn:=Mq p.ba.bi n.toNat (by have q1:0<=n:=hp.2.2.2.1;have q2:n<p.ba.bi.length:=hp.2.2.2.2;omega);have hn2:=Ac BW (p.ba.bi.getD n.toNat default).bo)<;>generalize hat:(p.ba.bi.getD n.toNat default).bo=at_ at *<;>(have h1:=AV at_ ⟨#[110,111,110,99,101]⟩;have h2:=AV at_ ⟨#[115,114,99]⟩;have h3:=AV at_ ⟨#[100,105,103,101,115,116]⟩;have h4:=λm to d=>My p m to d n)<;>(try simp only[std,Nat.reduceAdd,script] at *)<;>(try simp(disch:=omega) only[FS,A_] at *)<;>(try simp(disch:=omega) only[I_,J_])<;>(first|trivial|omega|grind[FS,A_,HO,G_,F_,maxLen,script]))
def AkN:=Ajx.G Ce<|GS.of (S:=Ce) (L:=λ_ _=>none) (kp:=(KP [2,3,4,6,7,9,10,11,12] [31,46])) Ajx.2 func316 k_ k_ (by
 rintro⟨(p:C_),(t:ao),(n:Int),_⟩ hp;refine ho (let H_:=GS.out Ce ((p,()),(()));.cl Al (t.bo,(⟨#[100,105,103,101,115,116]⟩:ByteArray),()) λz2=>.cl Al (t.bo,(⟨#[104,114,101,102]⟩:ByteArray),()) λz3=>.cl Al (t.bo,(⟨#[115,114,99]⟩:ByteArray),()) λz4=>let E_:Out:=.br (t.name.toList==(⟨#[105,109,103]⟩:ByteArray).toList) (.br (z4.2.1) (.cl Cc (p,(1:Int),z4.1,z2.1,n,()) λ(z6:bH)=>GS.out Ce ((z6.1,()),(()))) H_) H_;.br (t.name.toList==(⟨#[108,105,110,107]⟩:ByteArray).toList) (.br (z3.2.1) (.cl Cc (p,(2:Int),z3.1,z2.1,n,()) λ(z5:bH)=>GS.out Ce ((z5.1,()),(()))) E_) E_) ?_;repeat' (guard_target =~ Out.holds _ _;first|refine GS.leafY ?_|refine Aa (λ_=>?_) λ_=>?_|refine Ae ?_ λ_=>?_)
 all_goals (have h1:=AV t.bo ⟨#[104,114,101,102]⟩;have h2:=AV t.bo ⟨#[115,114,99]⟩;have h3:=AV t.bo ⟨#[100,105,103,101,115,116]⟩;have h4:szL BW t.bo<=4000000000/\t.bo.length<=4000000000:=by have q:=hp.2.2;have:=Ac BW t.bo;simp only[szToken] at q;omega)<;>(try simp only[std,Nat.reduceAdd,element] at *)<;>(try simp(disch:=omega) only[FS,A_] at *)<;>(try simp(disch:=omega) only[I_,J_])<;>(first|trivial|omega|grind[FS,A_,HO,G_,F_,maxLen,element]))
def Amh:=AkN.G Bu<|GS.of (S:=Bu) (L:=λ_ _=>none) (kp:=(KP [1,2,4,5,6,8,10,12,13,14] [53,59,62,73])) AkN.2 func317 k_ k_ (by
 rintro⟨(p:C_),(n:Int),_⟩ hp;refine ho (let E_:=p.ba.bi.getD (Int.toNat n) default;.ob (inB n p.ba.bi.length)<|.ob (Int.toNat n<p.ba.bi.length)<|.cl Al (E_.bo,(⟨#[100,105,103,101,115,116]⟩:ByteArray),()) λz2=>.cl Al (E_.bo,(⟨#[107,105,110,100]⟩:ByteArray),()) λz3=>.cl Al (E_.bo,(⟨#[110,111,110,99,101]⟩:ByteArray),()) λz4=>.cl Al (E_.bo,(⟨#[115,114,99]⟩:ByteArray),()) λz5=>.br (!z5.2.1) (.cl Cf (p.bj,z4.1,()) λz6=>.br (z6.1) (GS.out Bu (({p with inline:=n},()),(()))) (GS.out Bu ((p,()),(())))) (.br (z3.1.toList==(⟨#[100,101,102,101,114]⟩:ByteArray).toList) (.cl Cc (p,(4:Int),z5.1,z2.1,n,()) λ(z7:bH)=>GS.out Bu ((z7.1,()),(()))) (.br (z3.1.toList==(⟨#[109,111,100,117,108,101]⟩:ByteArray).toList) (.cl GP (p,z5.1,()) λz8=>GS.out Bu ((z8.1,()),(()))) (.cl Cc (p,(3:Int),z5.1,z2.1,n,()) λ(z9:bH)=>GS.out Bu (({z9.1 with block:=w1 z9.2.1},()),(())))))) ?_;repeat' first|(guard_target =~ Out.holds _ _;first|refine GS.leafY ?_|refine Aa (λ_=>?_) λ_=>?_|refine Ae ?_ λ_=>?_|refine Ab ?_ λ_=>?_)|exact trivial
 all_goals (have hn:=Mq p.ba.bi n.toNat (by have q1:0<=n:=hp.2.2.2.1;have q2:n<p.ba.bi.length:=hp.2.2.2.2;omega);have hn2:=Ac BW (p.ba.bi.getD n.toNat default).bo)<;>generalize hat:(p.ba.bi.getD n.toNat default).bo=at_ at *<;>(have h1:=AV at_ ⟨#[110,111,110,99,101]⟩;have h2:=AV at_ ⟨#[115,114,99]⟩;have h3:=AV at_ ⟨#[100,105,103,101,115,116]⟩;have h4:=λm to d=>My p m to d n)<;>(try simp only[std,Nat.reduceAdd,script] at *)<;>(try simp(disch:=omega) only[FS,A_] at *)<;>(try simp(disch:=omega) only[I_,J_])<;>(first|trivial|omega|grind[FS,A_,HO,G_,F_,maxLen,script]))
def isScript (p:C_) (t:ao):Bool:=decide (t.kind=2)&&(decide (t.name=⟨#[115,99,114,105,112,116]⟩)&&(decide (0<p.ba.bl.length/\1<=lastOpen p.ba/\lastOpen p.ba<p.ba.bi.length)&&decide ((p.ba.bi.getD (lastOpen p.ba).toNat default).name=⟨#[115,99,114,105,112,116]⟩)))
def taken (p:C_) (t:ao):C_:={ p with bn:=p.bn.drop 1,ba:=(addToken p.ba t).1 }
def takeTok (p:C_) (t:ao):C_ :=
 if t.kind=1/\0<=(addToken p.ba t).2 then element (taken p t) t (addToken p.ba t).2
 else if isScript p t=true then script (taken p t) (lastOpen p.ba)
 else taken p t
def takeToken (p:C_):C_×Bool:=if p.bn.length=0\/p.block≠0\/p.inline≠0 then(p,false) else(takeTok p (p.bn.getD 0 default),true)
def AgM {l:List ao}:cut l 1 (l.length-1)=l.drop 1:=by
 unfold cut;rw[ct (by simp)]
def VK (p:C_) (t:ao):(⟨p.addr,p.bj,p.tok,cut p.bn 1 (p.bn.length-1),p.ended,(addToken p.ba t).1,p.bf,p.bh,p.bg,p.block,p.inline,p.bm,p.bq,p.ran,p.log,p.loaded⟩:C_)=taken p t:=by rw[AgM];rfl
def MC (b:af) (n:ByteArray):∀ k,k<=b.bl.length->(closeN b n k).length<=b.bl.length
 | 0,_=>aa _
 | 1,_=>aa _
 | m+2,h=>by
  rw[closeN];split
  ·grind
  ·exact MC b n (m+1) o_
def KV (b:af) (t:ao):szL AM (addToken b t).1.bi<=szL AM b.bi+szToken t+1/\(addToken b t).1.bl.length<=b.bl.length+1/\(t.kind=2->(addToken b t).1.bi=b.bi):=by
 have h0:szL AM []=0:=rfl;have h2:szL BW []=0:=rfl;have h3:ByteArray.size ⟨#[]⟩=0:=rfl;unfold addToken;split
 ·have:=MC b t.name _ (aa _);exact⟨by show szL AM b.bi<=_;omega,by show(closeN b t.name b.bl.length).length<=_;omega,λ_=>rfl⟩
 ·split
  ·split
   ·refine⟨?_,?_,λh=>absurd h o_⟩
    ·dsimp only;rw[Cr,Ag,h0];simp only[AM,szToken,h3];omega
    ·grind
   ·refine⟨?_,?_,λh=>absurd h o_⟩
    ·dsimp only;rw[Cr,Ag,h0];simp only[AM,szToken,h3,h2];omega
    ·exact Nat.le_succ _
  ·grind
def QL (p:C_) (h:0<p.bn.length):Aj (taken p (p.bn.getD 0 default))<=Aj p+2/\szToken (p.bn.getD 0 default)+1+szL szToken (p.bn.drop 1)=szL szToken p.bn:=by
 have h1:=O1 szToken h;rw[dt,cx] at h1;have h2:=KV p.ba (p.bn.getD 0 default);refine⟨?_,h1.symm⟩;simp only[Aj,taken,szBuilder];omega
def MV {p:C_} {t:ao} (h1:t.kind=2) (h2:t.name=⟨#[115,99,114,105,112,116]⟩) (h3:0<p.ba.bl.length) (h4:1<=lastOpen p.ba) (h5:lastOpen p.ba<p.ba.bi.length) (h6:(p.ba.bi.getD (lastOpen p.ba).toNat default).name=⟨#[115,99,114,105,112,116]⟩):isScript p t=true:=by
 unfold isScript;rw[ee h1,ee h2,ee ⟨h3,h4,h5⟩,ee h6];rfl
def Ot {p:C_} {t:ao} (h:¬ t.kind=2\/¬ t.name=⟨#[115,99,114,105,112,116]⟩\/¬ (0<p.ba.bl.length/\1<=lastOpen p.ba/\lastOpen p.ba<p.ba.bi.length)\/¬ (p.ba.bi.getD (lastOpen p.ba).toNat default).name=⟨#[115,99,114,105,112,116]⟩):¬ isScript p t=true:=by
 unfold isScript;grind
def Qb {p:C_} {t:ao} (h1:t.kind=1) (h2:0<=(addToken p.ba t).2):takeTok p t=element (taken p t) t (addToken p.ba t).2:=by unfold takeTok;rw[I_ ⟨h1,h2⟩]
def Qj {p:C_} {t:ao} (h1:t.kind=2) (h2:isScript p t=true):takeTok p t=script (taken p t) (lastOpen p.ba):=by unfold takeTok;rw[J_ o_,I_ h2]
def PO {p:C_} {t:ao} (h1:¬ t.kind=1\/(addToken p.ba t).2<0) (h2:¬ isScript p t=true):takeTok p t=taken p t:=by unfold takeTok;rw[J_ o_,J_ h2]
def okTok (p:C_):Prop:=Aj p<=1000000000000/\p.addr.host.size<=4000000000/\(∀ i,i<p.bn.length->szToken (p.bn.getD i default)<=1000000000)/\szL AM p.ba.bi<=1000000000/\p.ba.bl.length<=1000000000
abbrev AU:Fct:=⟨[.v (.el .page)],[.el .page,.el .bool],λ(x:ak)=>okTok x.1,λ(x:ak)=>((takeToken x.1).1,(takeToken x.1).2,())⟩
def AjU:=Amh.a AU<|Fct.o (KP [1,2,3,4,5,6,7,8] [24,38,64,95]) Amh.2 func248 (by
 rintro⟨(p:C_),_⟩ hp;refine ho (let gy:=(p.ba.bl.length:Int);let aU:=(p.ba.bi.length:Int);let fB:=aU-(1:Int);let gB:=(0:Int)<=(-1:Int)/\(-1:Int)<aU;let aj:=(⟨#[115,99,114,105,112,116]⟩:ByteArray);let gC:=(p.ba.bi.getD 0 default).name.toList==aj.toList;let L_:=gy-(1:Int);let co:=0<=p.ba.bl.getD (wr L_).toNat default/\p.ba.bl.getD (wr L_).toNat default<aU;let bQ:=(p.ba.bi.getD (p.ba.bl.getD (wr L_).toNat default).toNat default).name.toList==aj.toList;.cl AA (p,()) λz2=>let gD:=(z2.1.bn.length:Int);let gz:Out:=.lf AU (z2.1,false,());let aC:=z2.1.bn.getD 0 default;let fC:=aC.kind==2;let fD:=aC.name.toList==aj.toList;let M_:=z2.1.bn.length-1;let aM:=1+M_<=z2.1.bn.length;.br ((p.bn.length:Int)==0) gz (.br (p.block != 0) gz (.br (p.inline != 0) gz (.ob ((0:Int)<=(0:Int)/\(0:Int)<gD)<|.ob (0<z2.1.bn.length)<|.ob ((0:Int)<=(1:Int)/\(1:Int)<=gD)<|.br (decide (gy>0)) (.ob (0<=wr L_/\wr L_<gy)<|.cl A3 (p.ba,z2.1.bn.getD 0 default,()) λ(z3:dC)=>let aF:=({z2.1 with bn:=cut z2.1.bn 1 M_,ba:=z3.1}:C_);let U_:Out:=.ob aM<|.lf AU ({z2.1 with bn:=cut z2.1.bn 1 M_,ba:=z3.1},true,());let E_:Out:=.br fC (.br fD (.cl Au (p.ba.bl.getD (wr L_).toNat default,(1:Int),wr fB,()) λz7=>.br (z7.1) (.ob co<|.br bQ (.ob aM<|.ob (Bu.pre (aF,p.ba.bl.getD (wr L_).toNat default,()))<|.lt _ (Bu.fn (aF,p.ba.bl.getD (wr L_).toNat default,())) λz8=>.lf AU (z8.1.1,true,())) U_) U_) U_) U_;.br (aC.kind==1) (.br (decide (z3.2.1>=0)) (.ob aM<|.ob (Ce.pre (aF,z2.1.bn.getD 0 default,z3.2.1,()))<|.lt _ (Ce.fn (aF,z2.1.bn.getD 0 default,z3.2.1,())) λz4=>let cM:Out:=.lf AU (z4.1.1,true,());.br fC (.br fD (.cl Au (p.ba.bl.getD (wr L_).toNat default,(1:Int),wr fB,()) λz5=>.br (z5.1) (.ob co<|.br bQ (.ob (Bu.pre (z4.1.1,p.ba.bl.getD (wr L_).toNat default,()))<|.lt _ (Bu.fn (z4.1.1,p.ba.bl.getD (wr L_).toNat default,())) λz6=>.lf AU (z6.1.1,true,())) cM) cM) cM) cM) E_) E_) (.cl A3 (p.ba,z2.1.bn.getD 0 default,()) λ(z11:dC)=>let bL:=({z2.1 with bn:=cut z2.1.bn 1 M_,ba:=z11.1}:C_);let Q_:Out:=.ob aM<|.lf AU ({z2.1 with bn:=cut z2.1.bn 1 M_,ba:=z11.1},true,());let H_:Out:=.br fC (.br fD (.cl Au ((-1:Int),(1:Int),wr fB,()) λz15=>.br (z15.1) (.ob gB<|.br gC (.ob aM<|.ob (Bu.pre (bL,(-1:Int),()))<|.lt _ (Bu.fn (bL,(-1:Int),())) λz16=>.lf AU (z16.1.1,true,())) Q_) Q_) Q_) Q_;.br (aC.kind==1) (.br (decide (z11.2.1>=0)) (.ob aM<|.ob (Ce.pre (bL,z2.1.bn.getD 0 default,z11.2.1,()))<|.lt _ (Ce.fn (bL,z2.1.bn.getD 0 default,z11.2.1,())) λz12=>let cN:Out:=.lf AU (z12.1.1,true,());.br fC (.br fD (.cl Au ((-1:Int),(1:Int),wr fB,()) λz13=>.br (z13.1) (.ob gB<|.br gC (.ob (Bu.pre (z12.1.1,(-1:Int),()))<|.lt _ (Bu.fn (z12.1.1,(-1:Int),())) λz14=>.lf AU (z14.1.1,true,())) cN) cN) cN) cN) H_) H_))))) ?_;repeat' first|(guard_target =~ Out.holds _ _;first|refine lfY ?_|refine Aa (λ_=>?_) λ_=>?_|refine Ae ?_ λ_=>?_|refine Ab ?_ λ_=>?_|refine DS ?_)|exact trivial
 all_goals have hpp:=EZ p<;>obtain⟨hp1,hp2,hp3,hp4,hp7⟩:=(show okTok p from hp)<;>(have hl1:=Ac AM p.ba.bi;have hl2:szBuilder p.ba<=2000000000:=by(unfold szBuilder;omega))<;>(try simp only[Kj] at *)<;>(try simp only[std,Nat.reduceAdd,inRange] at *)<;>(first|trivial|omega|(unfold takeToken;(first|rw[I_ (by exact .inl o_)]|rw[I_ (by exact .inr (.inl ‹_›))]|rw[I_ (by exact .inr (.inr ‹_›))]);exact⟨rfl,rfl⟩)|skip)<;>(have htz:=QL p o_;have ht0:=hp3 0 o_;have haz:=KV p.ba (p.bn.getD 0 default);try simp only[Ah (show -9223372036854775808<=(p.ba.bl.length:Int)-1/\(p.ba.bl.length:Int)-1<=9223372036854775807 from o_),Ah (show -9223372036854775808<=(p.ba.bi.length:Int)-1/\(p.ba.bi.length:Int)-1<=9223372036854775807 from o_),IC,VK] at *)<;>(first|trivial|omega|skip)<;>(try rw[show takeToken p=(takeTok p (p.bn.getD 0 default),true) by(unfold takeToken;rw[J_ o_])])<;>generalize p.bn.getD 0 default=t at *<;>(try simp only[show(taken p t).addr=p.addr from rfl,show(taken p t).ba=(addToken p.ba t).1 from rfl] at *)<;>(first|trivial|omega|skip)<;>(try simp only[Z_,ep,aH,ca,and_true] at *)<;>(first|trivial|omega|skip)<;>(try have hnn:(addToken p.ba t).1.bi=p.ba.bi:=haz.2.2 ‹_›;rw[hnn])<;>(first|trivial|omega|skip)<;>(first|rw[Qb ‹_› o_]|rw[Qj ‹_› (MV ‹_› ‹_› o_ o_ o_ ‹_›)]|rw[PO (by first|exact .inl ‹_›|exact .inr o_) (Ot (by first|exact .inl o_|exact .inr (.inl ‹_›)|exact .inr (.inr (.inl o_))|exact .inr (.inr (.inr ‹_›))))]))
def Ane:=AjU.a AU<|Fct.o (KP [1,2,3,4,5,6,7,8,9,10] [26,51,78,95,101]) AjU.2 func211 (by
 rintro⟨(p:C_),_⟩ hp;refine ho (let cN:=(p.ba.bi.length:Int);let co:=decide ((-1:Int)>=(1:Int));let bQ:=(⟨#[115,99,114,105,112,116]⟩:ByteArray);let aM:=(p.ba.bl.length:Int);let M_:=aM-(1:Int);let aU:=decide (p.ba.bl.getD (wr M_).toNat default>=1);.cl AA (p,()) λz2=>let cM:=(z2.1.bn.length:Int);let aF:Out:=.lf AU (z2.1,false,());let bL:=z2.1.bn.getD 0 default;let Q_:=z2.1.bn.length-1;let aC:=1+Q_<=z2.1.bn.length;let E_:Out:=.cl A3 (z2.1.ba,z2.1.bn.getD 0 default,()) λ(z8:dC)=>let U_:=({z2.1 with bn:=cut z2.1.bn 1 Q_,ba:=z8.1}:C_);let L_:Out:=.br co (.ob aC<|.ob (Bu.pre (U_,(-1:Int),()))<|.lt _ (Bu.fn (U_,(-1:Int),())) λz11=>.lf AU (z11.1.1,true,())) (.ob aC<|.lf AU ({z2.1 with bn:=cut z2.1.bn 1 Q_,ba:=z8.1},true,()));.br (decide (z8.2.1>=0)) (.br (bL.kind==1) (.ob aC<|.ob (Ce.pre (U_,z2.1.bn.getD 0 default,z8.2.1,()))<|.lt _ (Ce.fn (U_,z2.1.bn.getD 0 default,z8.2.1,())) λz9=>.br co (.ob (Bu.pre (z9.1.1,(-1:Int),()))<|.lt _ (Bu.fn (z9.1.1,(-1:Int),())) λz10=>.lf AU (z10.1.1,true,())) (.lf AU (z9.1.1,true,()))) L_) L_;.br ((p.bn.length:Int)==0) aF (.br (p.block != 0) aF (.br (p.inline != 0) aF (.ob ((0:Int)<=(0:Int)/\(0:Int)<cM)<|.ob (0<z2.1.bn.length)<|.ob ((0:Int)<=(1:Int)/\(1:Int)<=cM)<|.br (bL.kind==2) (.br (bL.name.toList==bQ.toList) (.br (decide (aM>0)) (.ob (0<=wr M_/\wr M_<aM)<|.br aU (.br (decide (p.ba.bl.getD (wr M_).toNat default<cN)) (.ob (0<=p.ba.bl.getD (wr M_).toNat default/\p.ba.bl.getD (wr M_).toNat default<cN)<|.br ((p.ba.bi.getD (p.ba.bl.getD (wr M_).toNat default).toNat default).name.toList==bQ.toList) (.cl A3 (z2.1.ba,z2.1.bn.getD 0 default,()) λ(z3:dC)=>let aj:=({z2.1 with bn:=cut z2.1.bn 1 Q_,ba:=z3.1}:C_);let H_:Out:=.br aU (.ob aC<|.ob (Bu.pre (aj,p.ba.bl.getD (wr M_).toNat default,()))<|.lt _ (Bu.fn (aj,p.ba.bl.getD (wr M_).toNat default,())) λz6=>.lf AU (z6.1.1,true,())) (.ob aC<|.lf AU ({z2.1 with bn:=cut z2.1.bn 1 Q_,ba:=z3.1},true,()));.br (decide (z3.2.1>=0)) (.br (bL.kind==1) (.ob aC<|.ob (Ce.pre (aj,z2.1.bn.getD 0 default,z3.2.1,()))<|.lt _ (Ce.fn (aj,z2.1.bn.getD 0 default,z3.2.1,())) λz4=>.br aU (.ob (Bu.pre (z4.1.1,p.ba.bl.getD (wr M_).toNat default,()))<|.lt _ (Bu.fn (z4.1.1,p.ba.bl.getD (wr M_).toNat default,())) λz5=>.lf AU (z5.1.1,true,())) (.lf AU (z4.1.1,true,()))) H_) H_) E_) E_) E_) E_) E_) E_)))) ?_;refine Ae ?_ λ_=>(Aa (λh2=>lfY ?_) λh2=>Aa (λh3=>lfY ?_) λh3=>Aa (λh4=>lfY ?_) λh4=>Ab ?_ λ_=>Ab ?_ λ_=>Ab ?_ λ_=>Aa (λh8=>Aa (λh9=>Aa (λh10=>Ab ?_ λ_=>Aa (λh12=>Aa (λh13=>Ab ?_ λ_=>Aa (λh15=>Ae ?_ λ_=>Aa (λh17=>Aa (λh18=>Ab ?_ λ_=>Ab ?_ λ_=>DS (Aa (λh21=>Ab ?_ λ_=>DS (lfY ?_)) λh21=>lfY ?_)) λh18=>Aa (λh23=>Ab ?_ λ_=>Ab ?_ λ_=>DS (lfY ?_)) λh23=>Ab ?_ λ_=>lfY ?_) λh17=>Aa (λh27=>Ab ?_ λ_=>Ab ?_ λ_=>DS (lfY ?_)) λh27=>Ab ?_ λ_=>lfY ?_) λh15=>Ae ?_ λ_=>Aa (λh32=>Aa (λh33=>Ab ?_ λ_=>Ab ?_ λ_=>DS (Aa (λh36=>Ab ?_ λ_=>DS (lfY ?_)) λh36=>lfY ?_)) λh33=>Aa (λh38=>Ab ?_ λ_=>Ab ?_ λ_=>DS (lfY ?_)) λh38=>Ab ?_ λ_=>lfY ?_) λh32=>Aa (λh42=>Ab ?_ λ_=>Ab ?_ λ_=>DS (lfY ?_)) λh42=>Ab ?_ λ_=>lfY ?_) λh13=>Ae ?_ λ_=>Aa (λh47=>Aa (λh48=>Ab ?_ λ_=>Ab ?_ λ_=>DS (Aa (λh51=>Ab ?_ λ_=>DS (lfY ?_)) λh51=>lfY ?_)) λh48=>Aa (λh53=>Ab ?_ λ_=>Ab ?_ λ_=>DS (lfY ?_)) λh53=>Ab ?_ λ_=>lfY ?_) λh47=>Aa (λh57=>Ab ?_ λ_=>Ab ?_ λ_=>DS (lfY ?_)) λh57=>Ab ?_ λ_=>lfY ?_) λh12=>Ae ?_ λ_=>Aa (λh62=>Aa (λh63=>Ab ?_ λ_=>Ab ?_ λ_=>DS (Aa (λh66=>Ab ?_ λ_=>DS (lfY ?_)) λh66=>lfY ?_)) λh63=>Aa (λh68=>Ab ?_ λ_=>Ab ?_ λ_=>DS (lfY ?_)) λh68=>Ab ?_ λ_=>lfY ?_) λh62=>Aa (λh72=>Ab ?_ λ_=>Ab ?_ λ_=>DS (lfY ?_)) λh72=>Ab ?_ λ_=>lfY ?_) λh10=>Ae ?_ λ_=>Aa (λh77=>Aa (λh78=>Ab ?_ λ_=>Ab ?_ λ_=>DS (Aa (λh81=>Ab ?_ λ_=>DS (lfY ?_)) λh81=>lfY ?_)) λh78=>Aa (λh83=>Ab ?_ λ_=>Ab ?_ λ_=>DS (lfY ?_)) λh83=>Ab ?_ λ_=>lfY ?_) λh77=>Aa (λh87=>Ab ?_ λ_=>Ab ?_ λ_=>DS (lfY ?_)) λh87=>Ab ?_ λ_=>lfY ?_) λh9=>Ae ?_ λ_=>Aa (λh92=>Aa (λh93=>Ab ?_ λ_=>Ab ?_ λ_=>DS (Aa (λh96=>Ab ?_ λ_=>DS (lfY ?_)) λh96=>lfY ?_)) λh93=>Aa (λh98=>Ab ?_ λ_=>Ab ?_ λ_=>DS (lfY ?_)) λh98=>Ab ?_ λ_=>lfY ?_) λh92=>Aa (λh102=>Ab ?_ λ_=>Ab ?_ λ_=>DS (lfY ?_)) λh102=>Ab ?_ λ_=>lfY ?_) λh8=>Ae ?_ λ_=>Aa (λh107=>Aa (λh108=>Ab ?_ λ_=>Ab ?_ λ_=>DS (Aa (λh111=>Ab ?_ λ_=>DS (lfY ?_)) λh111=>lfY ?_)) λh108=>Aa (λh113=>Ab ?_ λ_=>Ab ?_ λ_=>DS (lfY ?_)) λh113=>Ab ?_ λ_=>lfY ?_) λh107=>Aa (λh117=>Ab ?_ λ_=>Ab ?_ λ_=>DS (lfY ?_)) λh117=>Ab ?_ λ_=>lfY ?_)<;>have hpp:=EZ p<;>obtain⟨hp1,hp2,hp3,hp4,hp7⟩:=(show okTok p from hp)<;>(have hl1:=Ac AM p.ba.bi;have hl2:szBuilder p.ba<=2000000000:=by(unfold szBuilder;omega))<;>(try simp only[Kj] at *)<;>(try simp only[std,Nat.reduceAdd,inRange] at *)<;>(first|trivial|omega|(unfold takeToken;(first|rw[I_ (by exact .inl o_)]|rw[I_ (by exact .inr (.inl ‹_›))]|rw[I_ (by exact .inr (.inr ‹_›))]);exact⟨rfl,rfl⟩)|skip)<;>(have htz:=QL p o_;have ht0:=hp3 0 o_;have haz:=KV p.ba (p.bn.getD 0 default);try simp only[Ah (show -9223372036854775808<=(p.ba.bl.length:Int)-1/\(p.ba.bl.length:Int)-1<=9223372036854775807 from o_),Ah (show -9223372036854775808<=(p.ba.bi.length:Int)-1/\(p.ba.bi.length:Int)-1<=9223372036854775807 from o_),IC,VK] at *)<;>(first|trivial|omega|skip)<;>(try rw[show takeToken p=(takeTok p (p.bn.getD 0 default),true) by(unfold takeToken;rw[J_ o_])])<;>generalize p.bn.getD 0 default=t at *<;>(try simp only[show(taken p t).addr=p.addr from rfl,show(taken p t).ba=(addToken p.ba t).1 from rfl] at *)<;>(first|trivial|omega|skip)<;>(try simp only[Z_,ep,aH,ca,and_true] at *)<;>(first|trivial|omega|skip)<;>(try have hnn:(addToken p.ba t).1.bi=p.ba.bi:=haz.2.2 ‹_›;rw[hnn])<;>(first|trivial|omega|skip)<;>(first|rw[Qb ‹_› o_]|rw[Qj ‹_› (MV ‹_› ‹_› o_ o_ o_ ‹_›)]|rw[PO (by first|exact .inl ‹_›|exact .inr o_) (Ot (by first|exact .inl o_|exact .inr (.inl ‹_›)|exact .inr (.inr (.inl o_))|exact .inr (.inr (.inr ‹_›))))]))
def blk (p:C_):Int:=IntKind.i64.wrap (p.block-1)
def okParse (p:C_):Prop:=okTok p/\szL AO p.bf<=40000000000/\okBod p
def stepInline (p:C_):C_×Bool:=if stylesReady p.bf=true then({ runCode p (textOf p.inline p.ba.bi ⟨#[]⟩) true with inline:=0 },true) else(p,false)
def stepBlock (p:C_):C_×Bool :=
 if ¬ (0<=blk p/\blk p<p.bf.length) then({ p with block:=0 },true)
 else if(p.bf.getD (blk p).toNat default).done=false\/stylesReady p.bf=false then(p,false)
 else if(p.bf.getD (blk p).toNat default).code=1 then({ runCode p (p.bf.getD (blk p).toNat default).body true with block:=0 },true)
 else({ p with block:=0 },true)
def stepParser (p:C_):C_×Bool:=if p.inline≠0 then stepInline p else if p.block≠0 then stepBlock p else takeToken p
def LG (n:Int):∀ (l:List cO) (s:ByteArray),(textOf n l s).size<=s.size+szL AM l
 | [],s=>cw _ _
 | x::l,s=>by
  rw[textOf,Ag];split
  ·have:=LG n l (s++x.text);rw[aQ] at this;simp only[AM];omega
  ·have:=LG n l s;omega
def tf {b:Bool} (h:b=true) (h2:b=false):False:=by rw[h] at h2;cases h2
def QQ (p:C_):IntKind.i64.wrap (p.block-1)=blk p:=rfl
abbrev Bn:Fct:=⟨[.v (.el .page)],[.el .page,.el .bool],λ(x:ak)=>okParse x.1,λ(x:ak)=>((stepParser x.1).1,(stepParser x.1).2,())⟩
def Akx:=Ane.a Bn<|Fct.o (KP [1,2,3,4,5,6,7] [10,13,27,37,53,64]) Ane.2 func148 (by
 rintro⟨(p:C_),_⟩ hp;refine ho (let Q_:=(p.bf.length:Int);let M_:=p.block-(1:Int);let L_:=p.bf.getD (wr M_).toNat default;let H_:Out:=.cl AA (p,()) λz3=>.lf Bn (z3.1,false,());let E_:=0<=wr M_/\wr M_<Q_;.br (p.inline != 0) (.cl Bc (p,()) λz2=>.br (!z2.1) H_ (.cl LU (p.ba,p.inline,()) λz4=>.cl DM (p,z4.1,true,()) λz5=>.lf Bn ({z5.1 with inline:=(0:Int)},true,()))) (.br (p.block != 0) (.cl Au (wr M_,(0:Int),wr (Q_-(1:Int)),()) λz6=>.br (!z6.1) (.cl AA (p,()) λz7=>.lf Bn ({z7.1 with block:=(0:Int)},true,())) (.ob E_<|.br (!L_.done) H_ (.cl Bc (p,()) λz9=>.br (!z9.1) H_ (.cl AA (p,()) λz11=>.ob E_<|.br (L_.code==1) (.ob E_<|.cl DM (p,L_.body,true,()) λz12=>.lf Bn ({z12.1 with block:=(0:Int)},true,())) (.lf Bn ({z11.1 with block:=(0:Int)},true,())))))) (.cl AU (p,()) λz13=>.lf Bn (z13.1,z13.2.1,())))) ?_;repeat' first|(guard_target =~ Out.holds _ _;first|refine lfY ?_|refine Aa (λ_=>?_) λ_=>?_|refine Ae ?_ λ_=>?_|refine Ab ?_ λ_=>?_)|exact trivial
 all_goals obtain⟨hp0,hp6,hp5⟩:=(show okParse p from hp)<;>obtain⟨hp1,hp2,hp3,hp4,hp7⟩:=(show okTok p from hp0)<;>(have hbb:szBuilder p.ba<=2000000000:=by(unfold szBuilder;omega))<;>(have hpp:=EZ p;have hsl:=Ac AO p.bf;have hnl:=Ac AM p.ba.bi;have htx:=LG p.inline p.ba.bi ⟨#[]⟩)<;>rw[show ByteArray.size ⟨#[]⟩=0 from rfl] at htx<;>(try simp only[std,Nat.reduceAdd,inRange,QQ] at *)<;>(try simp only[QQ,Z_,ep,aH,ca,Ah (show -9223372036854775808<=(p.bf.length:Int)-1/\(p.bf.length:Int)-1<=9223372036854775807 from o_)] at *)<;>(first|trivial|omega|exact hp0|exact⟨o_,o_,o_,hp5 _ o_,hp5⟩|exact⟨o_,o_,o_,o_,hp5⟩|skip)<;>unfold stepParser<;>(first|rw[I_ ‹_›]|(rw[J_ o_];first|rw[I_ ‹_›]|rw[J_ o_]))<;>(first|exact⟨rfl,rfl⟩|(unfold stepInline)|(unfold stepBlock))<;>(repeat first|rw[I_ ‹_›]|rw[J_ (by intro q;first|exact tf q ‹_›|exact tf ‹_› q)]|rw[I_ o_]|rw[J_ o_]|rw[I_ (by exact .inl ‹_›)]|rw[I_ (by exact .inr ‹_›)]|rw[J_ (by rintro(q|q)<;>exact tf ‹_› q)]|fail)<;>exact⟨rfl,rfl⟩)
def Uu {b:UInt8} {s:ByteArray} (hl:idxB b s<(toL s).length):(toL s)[idxB b s]=b:=by
 have hg:=List.findIdx_getElem (xs:=toL s) (p:=λx=>x==b) (w:=hl);exact da.1 hg
def Wy {b:UInt8} {s:ByteArray} (h:idxB b s<s.size):G7 b (toL s)=some ((toL s).take (idxB b s),(toL s).drop (idxB b s+1)):=by
 have hl:idxB b s<(toL s).length:=h;refine Abh h ?_ ?_
 ·have hd:=Ka h;rw[List.drop_eq_getElem_cons hl] at hd;injection hd with hd
  rw[<-hd];exact Uu hl
 ·intro hm;obtain⟨j,hj,he⟩:=List.mem_take_iff_getElem.1 hm;have:=List.not_of_lt_findIdx (xs:=toL s) (p:=λx=>x==b) (i:=j) (show j<(toL s).findIdx _ from eC hj (Nat.min_le_left _ _));simp_all
def Abm {b:UInt8} {s:ByteArray} (h:¬ idxB b s<s.size):G7 b (toL s)=none:=by
 refine Of λhm=>h ?_
 unfold idxB;rw[<-Br];simp_all
def Ahw (s:ByteArray) (i:Nat):ofL ((toL s).take i)=s.extract 0 i:=by
 rw[<-Cg (s.extract 0 i),A4,dt]
def Rv (s:ByteArray) (i:Nat):ofL ((toL s).drop i)=s.extract i s.size:=by
 rw[<-Cg (s.extract i s.size),A4,ct (by rw[Br];exact aa _)]
def KR (b:UInt8) (s:ByteArray):spl b s=if idxB b s<s.size then s.extract 0 (idxB b s)::spl b (s.extract (idxB b s+1) s.size) else[s]:=by
 rw[I6];split
 ·rename_i hc;rw[J_];intro h;rw[Wy h] at hc;cases hc
 ·rename_i p q hc;by_cases h:idxB b s<s.size
  ·rw[I_ h];rw[Wy h] at hc;obtain⟨rfl,rfl⟩:=Prod.mk.inj (Option.some.inj hc);rw[Ahw,Rv]
  ·rw[Abm h] at hc;cases hc
def gl59:List ByteArray->ByteArray
 | []=>⟨#[]⟩
 | [w]=>w
 | w::x::l=>w++⟨#[59]⟩++gl59 (x::l)
def AfA (w:ByteArray) {l:List ByteArray} (h:l≠[]):gl59 (w::l)=w++⟨#[59]⟩++gl59 l:=by
 cases l with
 | nil=>exact absurd rfl h
 | cons x l=>rfl
def Aco {b:UInt8} {s:ByteArray} (h:idxB b s<s.size):s.extract 0 (idxB b s)++⟨#[b]⟩++s.extract (idxB b s+1) s.size=s:=by
 have hl:idxB b s<(toL s).length:=h;have e:toL s=(toL s).take (idxB b s)++b::(toL s).drop (idxB b s+1):=by have e2:(toL s)[idxB b s]=b:=Uu hl;have:=(eg (idxB b s) (toL s)).symm;rw[List.drop_eq_getElem_cons hl,e2] at this;exact this
 rw[<-Ahw,<-Rv];have e3:(⟨#[b]⟩:ByteArray)=ofL [b]:=rfl;rw[e3,<-J0,<-J0,bB,List.singleton_append,<-e,Cg]
def Ahj (b:UInt8) (s:ByteArray):spl b s≠[]:=by
 intro h;have:=(DU b s).1;simp_all
def Aej:∀ (n:Nat) (s:ByteArray),s.size<=n->gl59 (spl 59 s)=s
 | 0,s,hn=>by
  rw[KR,J_ o_];rfl
 | n+1,s,hn=>by
  rw[KR];by_cases h:idxB 59 s<s.size
  ·rw[I_ h,AfA _ (Ahj _ _),Aej n _ (by rw[cH];omega)];exact Aco h
  ·rw[J_ h];rfl
def impW:ByteArray:=⟨#[105,109,112,111,114,116,32]⟩
def hasImp (w:ByteArray):Prop:=7<=w.size/\w.extract 0 7=impW
instance (w:ByteArray):Decidable (hasImp w):=by unfold hasImp;exact inferInstance
def pmGo (b:ByteArray):List ByteArray->List D_->List D_×List bI×Bool
 | [],acc=>(acc,[],true)
 | w::l,acc=>
  if hasImp w then(if(parseAddr (w.extract 7 w.size) b).2=true then pmGo b l (acc++[(parseAddr (w.extract 7 w.size) b).1]) else([],[],false))
  else if(parseScript (gl59 (w::l))).2=true then(acc,(parseScript (gl59 (w::l))).1,true) else([],[],false)
def parseModule (s b:ByteArray):List D_×List bI×Bool:=pmGo b (spl 59 s) []
def N0:parseScript ⟨#[]⟩=([],true):=rfl
def Ah6 (b:ByteArray) (acc:List D_):pmGo b (spl 59 ⟨#[]⟩) acc=(acc,[],true):=by
 rfl
def Ac4 (s b:ByteArray):pmGo b (spl 59 s) []=parseModule s b:=rfl
def Zt {s:ByteArray} (h:hasImp s):7<=idxB 59 s:=by
 obtain⟨h1,h2⟩:=h;have e:(toL s).take 7=toL impW:=by rw[<-h2,A4,dt]
 have hn:(59:UInt8)∉(toL s).take 7:=by rw[e];decide
 rcases Nat.lt_or_ge (idxB 59 s) 7 with h3|h3
 ·exfalso;have h4:idxB 59 s<s.size:=o_
  have hl:idxB 59 s<(toL s).length:=h4;apply hn;rw[List.mem_take_iff_getElem];exact⟨idxB 59 s,o_,Uu hl⟩
 ·exact h3
def Qz {s:ByteArray} (h:idxB 59 s<s.size):hasImp (s.extract 0 (idxB 59 s))↔hasImp s:=by
 have hx:7<=idxB 59 s->(s.extract 0 (idxB 59 s)).extract 0 7=s.extract 0 7:=λh7=>by apply ByteArray.ext;simp_all
 constructor
 ·rintro⟨h1,h2⟩;rw[cH] at h1;exact⟨o_,by rw[<-h2,hx o_]⟩
 ·intro hs;have h7:=Zt hs;exact⟨by rw[cH];omega,by rw[hx h7];exact hs.2⟩
def Aak {s:ByteArray} {k:Nat}:(s.extract 0 k).extract 7 (s.extract 0 k).size=s.extract 7 k:=by
 apply ByteArray.ext;apply Array.ext';have e1:=A4 (s.extract 0 k) 7 (s.extract 0 k).size;have e2:=A4 s 0 k;have e3:=A4 s 7 k;rw[ct (by rw[Br];exact aa _),e2,dt] at e1;exact e1.trans e3.symm
def Agj {b s:ByteArray} {acc:List D_} (h:hasImp s) (h2:(parseAddr (s.extract 7 (idxB 59 s)) b).2=true):pmGo b (spl 59 s) acc=pmGo b (spl 59 (s.extract (min s.size (idxB 59 s+1)) s.size)) (acc++[(parseAddr (s.extract 7 (idxB 59 s)) b).1]):=by
 by_cases hk:idxB 59 s<s.size
 ·rw[KR,I_ hk,pmGo,I_ ((Qz hk).2 h),Aak,I_ h2,Nat.min_eq_right o_]
 ·have e:idxB 59 s=s.size:=by have:=G6 59 s;omega
  rw[KR,J_ hk,pmGo,I_ h];rw[e] at h2 ⊢;rw[I_ h2,Nat.min_eq_left o_];have e0:s.extract s.size s.size=⟨#[]⟩:=by rw[<-Rv,bR (by rw[Br];exact aa _)];rfl
  rw[e0,Ah6];rfl
def Ah0 {b s:ByteArray} {acc:List D_} (h:hasImp s) (h2:(parseAddr (s.extract 7 (idxB 59 s)) b).2=false):pmGo b (spl 59 s) acc=([],[],false):=by
 by_cases hk:idxB 59 s<s.size
 ·rw[KR,I_ hk,pmGo,I_ ((Qz hk).2 h),Aak,J_ (by rw[h2];decide)]
 ·have e:idxB 59 s=s.size:=by have:=G6 59 s;omega
  rw[KR,J_ hk,pmGo,I_ h];simp_all
def Ahy {b s:ByteArray} {acc:List D_} (h:¬ hasImp s):pmGo b (spl 59 s) acc=if(parseScript s).2=true then(acc,(parseScript s).1,true) else([],[],false):=by
 have hg:=Aej s.size s (aa _);rw[KR] at hg ⊢;by_cases hk:idxB 59 s<s.size
 ·rw[I_ hk] at hg ⊢;rw[pmGo,J_ λq=>h ((Qz hk).1 q),hg]
 ·rw[J_ hk] at hg ⊢;rw[pmGo,J_ h,hg]
abbrev BK:Fct:=⟨[.v (.el .str),.v (.el .str)],[.sl .addr,.sl .line,.el .bool],λ(x:cA)=>x.1.size<=4000000000/\x.2.1.size<=4000000000,λ(x:cA)=>((parseModule x.1 x.2.1).1,(parseModule x.1 x.2.1).2.1,(parseModule x.1 x.2.1).2.2,())⟩
abbrev Bz (s:ByteArray) (b:ByteArray):LInv:=⟨[⟨.s,7,true,.sl .addr⟩,⟨.s,8,false,.el .str⟩],λ_ (x:dM)=>x.2.1.size<=s.size/\x.1.length+x.2.1.size<=s.size/\pmGo b (spl 59 x.2.1) x.1=parseModule s b,λ(x:dM)=>x.2.1.size⟩
def Ank:=Akx.a BK<|Fct.p (KP [0,1,4,5,6,7,8,9,10,11,12,13] [23,35,55]) (λ⟨s,b,_⟩=>lv [(3,Bz s b)]) Akx.2 func351 (by
 rintro⟨(s:ByteArray),(b:ByteArray),_⟩ hp;refine ho (let L_:Out:=.lf BK ([],[],false,());lpx (Bz s b) ([],(s,())) λ(y1:dM) bk1=>let H_:=(y1.2.1.size:Int);let E_:Out:=.cl Be (y1.2.1,()) λz5=>.br (!z5.2.1) L_ (.lf BK (y1.1,z5.1,true,()));.br (decide (H_>=7)) (.ob ((0:Int)<=(7:Int)/\(7:Int)<=H_)<|.br ((y1.2.1.extract 0 7).toList==(⟨#[105,109,112,111,114,116,32]⟩:ByteArray).toList) (.cl MK (y1.2.1,(59:Int),()) λ(z2:B_)=>.ob ((0:Int)<=(7:Int)/\7<=z2.1/\z2.1<=H_)<|.cl AK (y1.2.1.extract 7 z2.1.toNat,b,()) λz3=>.br (!z3.2.1) L_ (.ap (y1.1.length+[z3.1].length) 32<|.cl AhL (H_,w1 z2.1,()) λ(z4:B_)=>.ob (0<=z4.1/\z4.1<=H_)<|.re (Value.string s)<|.re (Value.string b)<|.bk (bk1 (y1.1++[z3.1],(y1.2.1.extract z4.1.toNat y1.2.1.size,()))))) E_) E_) ?_;repeat' first|(guard_target =~ Out.holds _ _;first|refine Am (li:=Bz s b) ?_ λ(y1:dM) i1=>?_|refine lfY ?_|refine Aa (λ_=>?_) λ_=>?_|refine Ae ?_ λ_=>?_|refine Ab ?_ λ_=>?_|refine AR ?_|refine Ai ?_|refine Ed ?_ λ_=>?_)|exact trivial
 all_goals (have hp1:s.size<=4000000000/\b.size<=4000000000:=hp;try simp only[std,Nat.reduceAdd,show UInt8.ofNat (Int.toNat 59)=59 from rfl] at *)<;>(first|omega|(simp only[Ac4,aa,and_self];done)|(obtain⟨acc,x,u⟩:=y1;obtain⟨a1,a2,a3⟩:=i1;dsimp only at *;have k1:=G6 59 x))<;>(first|(have hi:hasImp x:=⟨o_,‹_›⟩;have k2:=Zt hi)|(have hi:¬ hasImp x:=by rintro⟨q1,q2⟩;first|omega|exact absurd q2 ‹_›))<;>(have k3:∀ a b,(x.extract a b).size<=x.size:=λa b=>by rw[cH];omega)<;>(have k4:=k3 7 (idxB 59 x);have hw:IntKind.i64.wrap ((idxB 59 x:Int)+1)=(idxB 59 x:Int)+1:=Ah (by constructor<;>omega);have hm:Int.toNat (min (x.size:Int) ((idxB 59 x:Int)+1))=min x.size (idxB 59 x+1):=o_)<;>simp only[fw,hw,hm] at *<;>(first|omega|exact⟨o_,Int.ofNat_le.2 k2,Int.ofNat_le.2 k1⟩|exact⟨o_,o_⟩|skip)<;>(first|(rw[<-a3,Ah0 hi ‹_›];exact⟨rfl,rfl,rfl⟩)|(rw[<-a3,Ahy hi];(first|rw[I_ ‹_›]|rw[J_ (by rw[show(parseScript x).2=false from ‹_›];decide)]);exact⟨rfl,by first|rfl|assumption,rfl⟩)|skip)<;>rw[Agj hi ‹_›] at a3<;>refine⟨⟨bT (k3 _ _) a1,?_,a3⟩,?_⟩<;>(rw[cH];try simp only[al,aw,aJ])<;>omega)
def isParsed (p:C_):Bool:=p.ended&&decide (p.bn.length=0/\p.block=0/\p.inline=0)
abbrev EC:Fct:=⟨[.v (.el .page)],[.el .bool],λ(x:ak)=>True,λ(x:ak)=>(isParsed x.1,())⟩
theorem q21 (p:C_) (hp:EC.pre (p,())):Out.holds (EC.ctr (p,())).post (.br (p.ended) (.br ((p.bn.length:Int)==0) (.br (p.block==0) (.lf EC (p.inline==0,())) (.lf EC (false,()))) (.lf EC (false,()))) (.lf EC (false,()))):=hz ((@isParsed.eq_1))
def Amj:=Ank.a EC<|Fct.o [1,2] Ank.2 func249 (by
 rintro⟨(p:C_),_⟩ hp;exact ho _ (q21 p hp))
def Ajl:=Amj.a EC<|Fct.o [1,2] Amj.2 func212 (by
 rintro⟨(p:C_),_⟩ hp;exact ho _ (q21 p hp))
def deferredSlots (p:C_):List Int:=openIdx (λs=>decide (s.mode=4)) p.bf 0
abbrev DF:Fct:=⟨[.v (.el .page)],[.sl .int],λ(x:ak)=>x.1.bf.length<=1000000000000,λ(x:ak)=>(deferredSlots x.1,())⟩
abbrev Ca (p:C_):LInv:=⟨[⟨.s,3,true,.sl .int⟩,⟨.s,4,true,.el .int⟩,⟨.b,1,false,.el .page⟩],λ(z x:bY)=>(0<=x.2.1/\x.2.1<=p.bf.length/\x.1.length<=x.2.1/\x.1++openIdx (λs=>decide (s.mode=4)) (p.bf.drop x.2.1.toNat) x.2.1=deferredSlots p)/\x.2.2.1=z.2.2.1,λ(x:bY)=>p.bf.length-x.2.1.toNat⟩
def Ams:=Ajl.a DF<|Fct.p (KP [1,2,3,4] [10,19]) (λ⟨p,_⟩=>lv [(3,Ca p)]) Ajl.2 func250 (by
 rintro⟨(p:C_),_⟩ hp;refine ho (lpx (Ca p) ([],((0:Int),(p,()))) λ(y1:bY) bk1=>.br (decide (y1.2.1<(y1.2.2.1.bf.length:Int))) (.ob (inB y1.2.1 y1.2.2.1.bf.length)<|.br ((y1.2.2.1.bf.getD y1.2.1.toNat default).mode==4) (.ap (y1.1.length+[y1.2.1].length) 8<|.bk (bk1 (y1.1++[y1.2.1],(w1 y1.2.1,(y1.2.2.1,()))))) (.bk (bk1 (y1.1,(w1 y1.2.1,(y1.2.2.1,())))))) (.lf DF (y1.1,()))) ?_;refine Am ?_ λ(y1:bY) i1=>Aa (λh2=>Ab ?_ λ_=>Aa (λh4=>Ed ?_ λ_=>AR ?_) λh4=>AR ?_) (λh2=>lfY ?_)<;>(have h0:openIdx (λs:ay=>decide (s.mode=4)) (p.bf.drop 0) 0=deferredSlots p:=rfl;try simp only[std,Nat.reduceAdd,ae,X_,al,aw,aJ,bB] at *)<;>(try simp(disch:=omega) only[FS,A_] at *)<;>(try simp(disch:=omega) only[I_,J_])<;>(first|trivial|omega|grind[FS,A_,HO,G_,F_,maxLen,ae,X_,List.length_append,List.length_cons,List.length_nil,List.append_assoc]))
abbrev B9 (p:C_):LInv:=⟨[⟨.s,3,true,.sl .int⟩,⟨.s,10,true,.el .int⟩],λ_ (x:an)=>0<=x.2.1/\x.2.1<=p.bf.length/\x.1.length<=x.2.1/\x.1++openIdx (λs=>decide (s.mode=4)) (p.bf.drop x.2.1.toNat) x.2.1=deferredSlots p,λ(x:an)=>p.bf.length-x.2.1.toNat⟩
def AnH:=Ams.a DF<|Fct.p (KP [1,2,3,4,5,8,9,10] [11,17]) (λ⟨p,_⟩=>lv [(3,B9 p)]) Ams.2 func213 (by
 rintro⟨(p:C_),_⟩ hp;refine ho (lpx (B9 p) ([],((0:Int),())) λ(y1:an) bk1=>.br (decide (y1.2.1<(p.bf.length:Int))) (.ob (inB y1.2.1 p.bf.length)<|.br ((p.bf.getD y1.2.1.toNat default).mode==4) (.ap (y1.1.length+[y1.2.1].length) 8<|.re (p.bf)<|.re (Value.int IntKind.i64 (p.bf.length:Int))<|.bk (bk1 (y1.1++[y1.2.1],(w1 y1.2.1,())))) (.re (p.bf)<|.re (Value.int IntKind.i64 (p.bf.length:Int))<|.bk (bk1 (y1.1,(w1 y1.2.1,()))))) (.lf DF (y1.1,()))) ?_;refine Am ?_ λ(y1:an) i1=>Aa (λh2=>Ab ?_ λ_=>Aa (λh4=>Ed ?_ λ_=>Ai<|Ai<|AR ?_) λh4=>Ai<|Ai<|AR ?_) (λh2=>lfY ?_)<;>(have h0:openIdx (λs:ay=>decide (s.mode=4)) (p.bf.drop 0) 0=deferredSlots p:=rfl;try simp only[Kj] at *)<;>(try simp only[std,Nat.reduceAdd,ae,X_,al,aw,aJ,bB] at *)<;>(try simp(disch:=omega) only[FS,A_] at *)<;>(try simp(disch:=omega) only[I_,J_])<;>(first|trivial|omega|grind[FS,A_,HO,G_,F_,maxLen,ae,X_,List.length_append,List.length_cons,List.length_nil,List.append_assoc]))
def formatAddr (a:D_):ByteArray:=if isName a.host&&isName a.path then a.host++⟨#[47]⟩++a.path else⟨#[]⟩
abbrev D5:Fct:=⟨[.v (.el .addr)],[.el .str],λ(x:aK)=>szAddr x.1<=1000000000000,λ(x:aK)=>(formatAddr x.1,())⟩
theorem q8 (a:D_) (hp:D5.pre (a,())):Out.holds (D5.ctr (a,())).post (.cl DH (a,()) λz2=>.br (!z2.1) (.lf D5 ((⟨#[]⟩:ByteArray),())) (.ob (sameSize a.host (⟨#[47]⟩:ByteArray))<|.ob (sameSize (a.host++(⟨#[47]⟩:ByteArray)) a.path)<|.lf D5 (a.host++(⟨#[47]⟩:ByteArray)++a.path,()))):=by
 refine Ae ?_ λ_=>(Aa (λh2=>lfY ?_) λh2=>Ab ?_ λ_=>Ab ?_ λ_=>lfY ?_)<;>(try simp only[std,Nat.reduceAdd,formatAddr,sameSize,aQ,szAddr] at *)<;>(try simp(disch:=omega) only[FS,A_] at *)<;>(try simp(disch:=omega) only[I_,J_])<;>(first|trivial|omega|grind[FS,A_,HO,G_,F_,maxLen,formatAddr,sameSize,ByteArray.size_append,szAddr])
def AmV:=AnH.a D5<|Fct.o (KP [1,2] [5]) AnH.2 func350 (by
 rintro⟨(a:D_),_⟩ hp;exact ho _ (q8 a hp))
def Amg:=AmV.a D5<|Fct.o (KP [1,2] [5]) AmV.2 func320 (by
 rintro⟨(a:D_),_⟩ hp;exact ho _ (q8 a hp))
def say (p:C_) (s:ByteArray):C_:=if p.log.length<40 then{ p with log:=p.log++[s]} else p
abbrev Ab7:GS:=⟨[.g (.el .page),.l (.v (.el .str))],[.el .page],λ(x:cS)=>True,λ(x:cS)=>((say x.1 x.2.1,()),(()))⟩
def AjP:=Amg.G Ab7<|GS.of (S:=Ab7) (L:=λ_ _=>none) (kp:=(KP [1,2,4] [8])) Amg.2 func253 k_ k_ (by
 rintro⟨(p:C_),(s:ByteArray),_⟩ hp;refine ho (.br (decide ((p.log.length:Int)<40)) (.ap (p.log.length+[s].length) 16<|GS.out Ab7 (({p with log:=p.log++[s]},()),(()))) (GS.out Ab7 ((p,()),(())))) ?_;refine Aa (λh1=>Ed ?_ λ_=>GS.leafY ?_) λh1=>GS.leafY ?_;all_goals
  try simp only[std,Nat.reduceAdd,say] at *
  try simp(disch:=omega) only[FS,A_] at *
  try simp(disch:=omega) only[I_,J_]
 all_goals first|trivial|omega|grind[FS,A_,HO,G_,F_,maxLen,say])
abbrev Nd:GS:=⟨[.b (.el .page),.l (.v (.el .str))],[],λ(x:cS)=>True,λ(x:cS)=>((()),(say x.1 x.2.1,()))⟩
def AnA:=AjP.G Nd<|GS.of (S:=Nd) (L:=λ_ _=>none) (kp:=(KP [0,1] [9])) AjP.2 func216 k_ k_ (by
 rintro⟨(p:C_),(s:ByteArray),_⟩ hp;refine ho (.br (decide ((p.log.length:Int)<40)) (.ap (p.log.length+[s].length) 16<|GS.out Nd ((()),({p with log:=p.log++[s]},()))) (GS.out Nd ((()),(p,())))) ?_;refine Aa (λh1=>Ed ?_ λ_=>GS.leafY ?_) λh1=>GS.leafY ?_;all_goals
  try simp only[std,Nat.reduceAdd,say] at *
  try simp(disch:=omega) only[FS,A_] at *
  try simp(disch:=omega) only[I_,J_]
 all_goals first|trivial|omega|grind[FS,A_,HO,G_,F_,maxLen,say])
def findMod (l:List Y_) (a:D_):Int:=fidx (λm=>decide (m.to=a)) l 0
def Kl (l:List Y_) (a:D_):fidx (λm=>decide (m.to=a)) l 0=findMod l a:=rfl
def BJ (l:List Y_) (a:D_):findMod l a<l.length/\-1<=findMod l a:=by
 have:=DI (λm:Y_=>decide (m.to=a)) l 0 o_;unfold findMod;omega
def Kw {l:List Y_} {a:D_} (h:0<=findMod l a):(l.getD (findMod l a).toNat default).to=a:=by
 have e:=NK (λm:Y_=>decide (m.to=a)) l 0 o_;rw[Kl,I_ h,Int.sub_zero] at e;grind
def imports (p:C_) (a:D_):List D_×Bool :=
 if findMod p.bh a<0\/(p.bh.getD (findMod p.bh a).toNat default).done=false\/¬ (p.bh.getD (findMod p.bh a).toNat default).code=1 then([],false)
 else((parseModule (p.bh.getD (findMod p.bh a).toNat default).body a.host).1,(parseModule (p.bh.getD (findMod p.bh a).toNat default).body a.host).2.2)
def okMb (p:C_):Prop:=∀ i,i<p.bh.length->(p.bh.getD i default).body.size<=4000000000
abbrev HT:Fct:=⟨[.v (.el .page),.v (.el .addr)],[.sl .addr,.el .bool],λ(x:aO)=>x.1.bh.length<=1000000000000/\okMb x.1/\x.2.1.host.size<=4000000000,λ(x:aO)=>((imports x.1 x.2.1).1,(imports x.1 x.2.1).2,())⟩
def AjW:=AnA.a HT<|Fct.o (KP [2,3,4,5,6,7,9] [32]) AnA.2 func262 (by
 rintro⟨(p:C_),(a:D_),_⟩ hp;refine ho (.cl G9 (p,a,()) λ(z2:B_)=>.br (decide (z2.1<0)) (.lf HT ([],false,())) (.ob (inB z2.1 p.bh.length)<|.br (!(p.bh.getD z2.1.toNat default).done) (.lf HT ([],false,())) (.ob (inB z2.1 p.bh.length)<|.br ((p.bh.getD z2.1.toNat default).code != 1) (.lf HT ([],false,())) (.ob (inB z2.1 p.bh.length)<|.cl BK ((p.bh.getD z2.1.toNat default).body,a.host,()) λz3=>.lf HT (z3.1,z3.2.2.1,()))))) ?_;repeat' (guard_target =~ Out.holds _ _;first|refine lfY ?_|refine Aa (λ_=>?_) λ_=>?_|refine Ae ?_ λ_=>?_|refine Ab ?_ λ_=>?_)
 all_goals have hf:=BJ p.bh a<;>obtain⟨q1,q2,q3⟩:=(show p.bh.length<=1000000000000/\okMb p/\a.host.size<=4000000000 from hp)<;>(try simp only[Kj] at *)<;>(try simp only[std,Nat.reduceAdd,Kl] at *)<;>(first|omega|exact⟨q2 _ o_,q3⟩|skip)<;>unfold imports<;>(first|rw[I_ (by exact .inl ‹_›)]|rw[I_ (by exact .inr (.inl ‹_›))]|rw[I_ (by exact .inr (.inr ‹_›))]|rw[J_ (by rintro(q|q|q)<;>first|omega|exact tf ‹_› q|exact q ‹_›)])<;>exact⟨rfl,rfl⟩)
def PK (b:ByteArray):∀ (l:List ByteArray) (acc:List D_),(∀ x,x∈acc->x.host.size<=8/\x.path.size<=8)->(∀ x,x∈(pmGo b l acc).1->x.host.size<=8/\x.path.size<=8)/\(pmGo b l acc).1.length+l.length<=acc.length+szL Af l
 | [],acc,h=>⟨h,aa _⟩
 | w::l,acc,h=>by
  rw[pmGo,Ag];have hnil:∀ x:D_,x∈([]:List D_)->x.host.size<=8/\x.path.size<=8:=λx h=>by cases h
  have hll:=Ac Af l;split
  ·rename_i hi;split
   ·rename_i hc;obtain⟨i1,i2⟩:=PK b l (acc++[(parseAddr (w.extract 7 w.size) b).1]) (λx hx=>by
     rcases aR.1 hx with hx|hx
     ·exact h x hx
     ·rw[List.mem_singleton] at hx;subst hx;unfold parseAddr at hc ⊢;split at hc
      ·rename_i hn;rw[I_ hn];rw[Z_] at hn;exact⟨Bx hn.1,Bx hn.2⟩
      ·cases hc)
    refine⟨i1,?_⟩;rw[al] at i2;have:=hi.1;grind
   ·grind
  ·grind
def Pm (s b:ByteArray):(∀ x,x∈(parseModule s b).1->x.host.size<=8/\x.path.size<=8)/\(parseModule s b).1.length<=s.size:=by
 obtain⟨h1,h2⟩:=PK b (spl 59 s) [] (λx h=>by cases h);have h3:=(DU 59 s).1;rw[OO] at h2;exact⟨h1,by simp only[aJ,parseModule] at *;omega⟩
def Fq (p:C_) (a:D_):(∀ x,x∈(imports p a).1->x.host.size<=8/\x.path.size<=8)/\((imports p a).1=[]\/0<=findMod p.bh a/\(imports p a).1.length<=(p.bh.getD (findMod p.bh a).toNat default).body.size):=by
 unfold imports;split
 ·simp
 ·rename_i h;have:=Pm (p.bh.getD (findMod p.bh a).toNat default).body a.host;simp_all
def inL (l:List D_) (a:D_):Bool:=l.any λc=>decide (c=a)
def visitF:Nat->C_->D_->List D_×List D_->List D_×List D_
 | 0,_,_,st=>st
 | f+1,p,a,st=>if inL st.1 a=true then st else
  (((imports p a).1.foldl (λst b=>visitF f p b st) (st.1++[a],st.2)).1,((imports p a).1.foldl (λst b=>visitF f p b st) (st.1++[a],st.2)).2++[a])
def muV (p:C_) (s:List D_):Nat:=(p.bh.filter λm=>!inL s m.to).length
def wtV (p:C_) (s:List D_):Nat:=((p.bh.filter λm=>!inL s m.to).map λm=>m.body.size+1).sum
def KK (s l:List D_) (a:D_):inL (s++l) a=(inL s a||inL l a):=by unfold inL;rw[List.any_append]
def Ua (a b:D_):inL [a] b=decide (a=b):=by unfold inL;simp
def IP {α:Type} {f g:α->Bool}:∀ {l:List α},(∀ x,x∈l->g x=true->f x=true)->(l.filter g).length<=(l.filter f).length
 | [],_=>aa _
 | x::l,h=>by
  have ih:=IP (f:=f) (g:=g) (l:=l) λy hy=>h y (cJ _ hy)
  grind
def ZR (p:C_) (s l:List D_):muV p (s++l)<=muV p s:=by
 unfold muV;refine IP λm _ h=>?_
 rw[KK] at h;simp_all
def wtL (g:Y_->Bool):List Y_->Nat
 | []=>0
 | m::l=>(if g m=true then m.body.size+1 else 0)+wtL g l
def Aet (g:Y_->Bool):∀ l:List Y_,wtL g l=((l.filter g).map λm=>m.body.size+1).sum
 | []=>rfl
 | m::l=>by rw[wtL,List.filter_cons,Aet g l];grind
def AaY {f g:Y_->Bool}:∀ {l:List Y_},(∀ m,g m=true->f m=true)->wtL g l<=wtL f l
 | [],_=>aa _
 | m::l,h=>by have:=AaY (l:=l) h;rw[wtL,wtL];grind
def W5 {f g:Y_->Bool}:∀ {l:List Y_} {i:Nat},i<l.length->(∀ m,g m=true->f m=true)->f (l.getD i default)=true->g (l.getD i default)=false->wtL g l+(l.getD i default).body.size+1<=wtL f l
 | [],i,h,_,_,_=>absurd h (Nat.not_lt_zero _)
 | m::l,0,_,hl,h1,h2=>by
  have:=AaY (l:=l) hl;have h1:f m=true:=h1;have h2:g m=false:=h2;show wtL g (m::l)+m.body.size+1<=_;rw[wtL,wtL,J_ (by rw[h2];decide),I_ h1];omega
 | m::l,i+1,h,hl,h1,h2=>by have ih:=W5 (l:=l) (i:=i) (by simpa using h) hl h1 h2;show wtL g (m::l)+(l.getD i default).body.size+1<=_;rw[wtL,wtL];grind
def Tc (p:C_) (s:List D_):wtV p s=wtL (λm=>!inL s m.to) p.bh:=(Aet _ _).symm
def Nx {s:List D_} (l:List D_) {m:Y_} (h:(!inL (s++l) m.to)=true):(!inL s m.to)=true:=by
 rw[KK] at h;simp_all
def AbK (p:C_) (s l:List D_):wtV p (s++l)<=wtV p s:=by
 rw[Tc,Tc];exact AaY λm h=>Nx l h
def Zg (p:C_) (s:List D_) (a:D_) (h:inL s a=false) (hf:0<=findMod p.bh a):wtV p (s++[a])+(p.bh.getD (findMod p.bh a).toNat default).body.size+1<=wtV p s:=by
 rw[Tc,Tc];have hr:=BJ p.bh a;have hg:=Kw hf;refine W5 o_ (λm h=>Nx [a] h) ?_ ?_
 ·rw[hg,h];rfl
 ·rw[hg,KK,h,Ua,ee rfl];rfl
def Z5 (p:C_) (s:List D_) (a:D_) (h:inL s a=false) (hf:0<=findMod p.bh a):muV p (s++[a])<muV p s:=by
 have hr:=BJ p.bh a;have hg:=Kw hf;have key:∀ (l:List Y_) (i:Nat),i<l.length->(l.getD i default).to=a->(l.filter λm=>!inL (s++[a]) m.to).length<(l.filter λm=>!inL s m.to).length:=by
  intro l
  induction l with
  | nil=>intro i hi;exact absurd hi (Nat.not_lt_zero _)
  | cons m l ih=>
   intro i hi he;have hle:(l.filter λm=>!inL (s++[a]) m.to).length<=(l.filter λm=>!inL s m.to).length:=IP λm _ h=>Nx [a] h
   rw[List.filter_cons,List.filter_cons];cases i with
   | zero=>
    have he:m.to=a:=he;rw[he,KK,h,Ua,ee rfl];grind
   | succ i=>
    have:=ih i (by simpa using hi) he;by_cases h1:(!inL (s++[a]) m.to)=true
    ·rw[I_ h1,I_ (Nx [a] h1)];simp only[aw];omega
    ·grind
 exact key _ _ o_ hg
def Su {α β:Type} (P:β->Prop) (f:β->α->β) (hf:∀ b a,P b->P (f b a)):∀ (l:List α) (b:β),P b->P (l.foldl f b)
 | [],_,h=>h
 | a::l,b,h=>Su P f hf l (f b a) (hf b a h)
def OC:∀ (f:Nat) (p:C_) (a:D_) (st:bV),∃ l,(visitF f p a st).1=st.1++l
 | 0,p,a,st=>⟨[],(cF _).symm⟩
 | f+1,p,a,st=>by
  rw[visitF];split
  ·exact⟨[],(cF _).symm⟩
  ·have:=Su (λb:List D_×List D_=>∃ l,b.1=st.1++l) (λst b=>visitF f p b st) (λb x ⟨l,hl⟩=>by obtain⟨m,hm⟩:=OC f p x b;exact⟨l++m,by rw[hm,hl,bB]⟩) (imports p a).1 (st.1++[a],st.2) ⟨[a],rfl⟩
   exact this
def M0:∀ (f g:Nat) (p:C_) (a:D_) (st:bV),muV p st.1<f->muV p st.1<g->visitF f p a st=visitF g p a st
 | 0,_,_,_,_,h,_=>absurd h (Nat.not_lt_zero _)
 | _+1,0,_,_,_,_,h=>absurd h (Nat.not_lt_zero _)
 | f+1,g+1,p,a,st,h1,h2=>by
  rw[visitF,visitF];split
  ·rfl
  ·rename_i hn;have hn:inL st.1 a=false:=by simpa using hn
   have hfold:∀ (l:List D_) (s:bV),muV p s.1<f->muV p s.1<g->l.foldl (λst b=>visitF f p b st) s=l.foldl (λst b=>visitF g p b st) s:=by
    intro l
    induction l with
    | nil=>intro s _ _;rfl
    | cons b l ih=>
     intro s q1 q2;rw[List.foldl_cons,List.foldl_cons,<-M0 f g p b s q1 q2];obtain⟨m,hm⟩:=OC f p b s;have:=ZR p s.1 m;grind
   rcases(Fq p a).2 with he|⟨hm,_⟩
   ·rw[he];rfl
   ·have:=Z5 p st.1 a hn hm;grind
def visit (p:C_) (a:D_) (st:bV):List D_×List D_:=visitF (p.bh.length+1) p a st
def AeP (p:C_) (s:List D_):muV p s<=p.bh.length:=List.length_filter_le _ _
def S4 {p:C_} {a:D_} {st:List D_×List D_} (h:inL st.1 a=true):visit p a st=st:=by unfold visit;rw[visitF,I_ h]
def Vs {p:C_} {a:D_} {st:List D_×List D_} (h:inL st.1 a=false):visit p a st=(((imports p a).1.foldl (λst b=>visit p b st) (st.1++[a],st.2)).1,((imports p a).1.foldl (λst b=>visit p b st) (st.1++[a],st.2)).2++[a]):=by
 have e:visit p a st=visitF (p.bh.length+2) p a st:=M0 _ _ p a st (by have:=AeP p st.1;omega) (by have:=AeP p st.1;omega);rw[e,visitF,J_ (by rw[h];decide)];rfl
def totV (p:C_) (s:List D_):Nat:=s.length+wtV p s
def TD:∀ (f:Nat) (p:C_) (a:D_) (st:bV),totV p (visitF f p a st).1<=totV p st.1+1/\(visitF f p a st).2.length+st.1.length=st.2.length+(visitF f p a st).1.length
 | 0,p,a,st=>⟨Nat.le_succ _,rfl⟩
 | f+1,p,a,st=>by
  rw[visitF];split
  ·omega
  ·rename_i hn;have hn:inL st.1 a=false:=by simpa using hn
   have hfold:∀ (l:List D_) (s:bV),totV p (l.foldl (λst b=>visitF f p b st) s).1<=totV p s.1+l.length/\(l.foldl (λst b=>visitF f p b st) s).2.length+s.1.length=s.2.length+(l.foldl (λst b=>visitF f p b st) s).1.length:=by
    intro l
    induction l with
    | nil=>intro s;exact⟨aa _,rfl⟩
    | cons b l ih=>
     intro s;rw[List.foldl_cons];have h1:=TD f p b s;grind
   have h1:=hfold (imports p a).1 (st.1++[a],st.2);rw[al,ed];have h3:(st.1++[a]).length=st.1.length+1:=by simp
   rcases(Fq p a).2 with he|⟨hm,hl⟩
   ·rw[he] at h1 ⊢;have:=AbK p st.1 [a];simp only[totV,aJ,List.foldl_nil] at *
    omega
   ·have:=Zg p st.1 a hn hm;simp only[totV] at *
    omega
def reachOf (p:C_) (a:D_):List D_:=(visit p a ([],[])).2
def Xb {p:C_} {a:D_} {s:List D_} {i:Nat} (h:inL s a=false) (hi:i<(imports p a).1.length):totV p (s++[a])+i<totV p s/\muV p (s++[a])<muV p s:=by
 rcases(Fq p a).2 with he|⟨hm,hl⟩
 ·simp_all
 ·have h1:=Zg p s a h hm;refine⟨?_,Z5 p s a h hm⟩;simp only[totV,al,aw,aJ];omega
def Xq {p:C_} {l:List D_} {i:Nat} {st:List D_×List D_} (h:i<l.length):(l.drop i).foldl (λst b=>visit p b st) st=(l.drop (i+1)).foldl (λst b=>visit p b st) (visit p (l.getD i default) st):=by rw[HO h];rfl
def Uv {p:C_} {l:List D_} {i:Nat} {st:List D_×List D_} (h:l.length<=i):(l.drop i).foldl (λst b=>visit p b st) st=st:=by rw[bR h];rfl
def PT (p:C_) (a:D_) (st:bV):totV p (visit p a st).1<=totV p st.1+1/\(visit p a st).2.length+st.1.length=st.2.length+(visit p a st).1.length:=TD _ _ _ _
abbrev mVis (x:dh):Nat:=muV x.1 x.2.2.1
def okVis (p:C_) (a:D_) (s o:List D_):Prop:=p.bh.length<=1000000000000/\okMb p/\a.host.size<=4000000000/\totV p s<=100000000000/\o.length<=s.length
abbrev Nc:GS:=⟨[.l (.v (.el .page)),.l (.v (.el .addr)),.g (.sl .addr),.g (.sl .addr)],[.sl .addr,.sl .addr],λ(x:dh)=>okVis x.1 x.2.1 x.2.2.1 x.2.2.2.1,λ(x:dh)=>(((visit x.1 x.2.1 (x.2.2.1,x.2.2.2.1)).1,(visit x.1 x.2.1 (x.2.2.1,x.2.2.2.1)).2,()),(()))⟩
def visInv (p:C_) (a:D_) (s o se od:List D_) (i:Int):Prop:=0<=i/\i<=(imports p a).1.length/\((imports p a).1.drop i.toNat).foldl (λst b=>visit p b st) (se,od)=(imports p a).1.foldl (λst b=>visit p b st) (s++[a],o)/\(∃ m,se=(s++[a])++m)/\totV p se<=totV p (s++[a])+i.toNat/\od.length+(s.length+1)=o.length+se.length
def Tt {p:C_} {a:D_} {s o se od:List D_} {i:Int} (h:visInv p a s o se od i) (hi:i<(imports p a).1.length):visInv p a s o (visit p ((imports p a).1.getD i.toNat default) (se,od)).1 (visit p ((imports p a).1.getD i.toNat default) (se,od)).2 (i+1):=by
 obtain⟨h1,h2,h3,⟨m,hm⟩,h5,h6⟩:=h;have ht:=PT p ((imports p a).1.getD i.toNat default) (se,od);rw[Xq o_] at h3;obtain⟨l,hl⟩:=OC (p.bh.length+1) p ((imports p a).1.getD i.toNat default) (se,od);dsimp only at ht;refine⟨o_,o_,?_,⟨m++l,?_⟩,?_,?_⟩
 ·grind
 ·show(visit p _ (se,od)).1=_;unfold visit;simp_all
 ·omega
 ·omega
def Kd {p:C_} {a:D_} {s o se od:List D_} {i:Int} (h:visInv p a s o se od i) (hi:i<(imports p a).1.length) (hn:inL s a=false) (hp:okVis p a s o):okVis p ((imports p a).1.getD i.toNat default) se od/\muV p se<muV p s:=by
 obtain⟨h1,h2,h3,⟨m,hm⟩,h5,h6⟩:=h;obtain⟨p1,p2,p3,p4,p5⟩:=hp;have hr:=Xb hn (show i.toNat<(imports p a).1.length from o_);have hm2:=ZR p (s++[a]) m;rw[<-hm] at hm2;have hb:=(Fq p a).1 _ (AH (show i.toNat<(imports p a).1.length from o_));exact⟨⟨p1,p2,o_,o_,o_⟩,o_⟩
def KJ {p:C_} (a:D_) (h:okMb p):(imports p a).1.length<=4000000000:=by
 have hr:=BJ p.bh a;rcases(Fq p a).2 with he|⟨q1,q2⟩
 ·rw[he];decide
 ·have:=h (findMod p.bh a).toNat o_;omega
def Qo {p:C_} {a:D_} {s o se od:List D_} {i:Int} (h:visInv p a s o se od i) (hp:okVis p a s o):od.length<=200000000000:=by
 obtain⟨h1,h2,h3,_,h5,h6⟩:=h;obtain⟨p1,p2,p3,p4,p5⟩:=hp;have h7:=KJ a p2;have h8:=AbK p s [a];simp only[totV,al,aw,aJ] at *
 omega
def Qp {p:C_} {a:D_} {s o se od:List D_} {i:Int} (h:visInv p a s o se od i) (hi:¬ i<(imports p a).1.length) (hn:inL s a=false):(se,od++[a])=visit p a (s,o):=by
 obtain⟨h1,h2,h3,_⟩:=h;rw[Uv o_] at h3;rw[Vs (st:=(s,o)) hn,<-h3]
def VT (p:C_) (a:D_) (s o:List D_) (ho:o.length<=s.length):visInv p a s o (s++[a]) o 0:=by
 refine⟨o_,o_,rfl,⟨[],(cF _).symm⟩,aa _,?_⟩;simp
def RY (s:List D_) (a:D_):(s.any λc=>decide (c=a))=inL s a:=rfl
abbrev FA (p:C_) (a:D_) (s:(List D_)) (o:(List D_)):LInv:=⟨[⟨.s,2,true,.sl .addr⟩,⟨.s,3,true,.sl .addr⟩,⟨.s,12,true,.el .int⟩,⟨.b,4,false,.el .page⟩,⟨.b,5,true,.el .addr⟩,⟨.s,10,true,.sl .addr⟩],λ(z x:dN)=>(((visInv p a s o x.1 x.2.1 x.2.2.1)/\x.2.2.2.1=z.2.2.2.1)/\x.2.2.2.2.1=z.2.2.2.2.1)/\x.2.2.2.2.2.1=z.2.2.2.2.2.1,λ(x:dN)=>(imports p a).1.length-x.2.2.1.toNat⟩
def Aj7:=AjW.G Nc<|GS.ofRec (S:=Nc) (L:=λ⟨p,a,s,o,_⟩=>λ|6=>some (FA p a s o)|_=>none) (kp:=[2,3,4,5,8,9,10,12,15,33,1000015,1000033]) mVis AjW.2 func401 k_ k_ (by
 intro n0;rintro⟨(p:C_),(a:D_),(s:List D_),(o:List D_),_⟩ hp hm;refine ho (.cl Fc (s,a,()) λz2=>.br (z2.1) (GS.out Nc ((s,o,()),(()))) (.ap s.length 32<|.ap (s.length+[a].length) 32<|.cl HT (p,a,()) λz3=>lpx (FA p a s o) (s++[a],(o,((0:Int),(p,(a,(z3.1,())))))) λ(y6:dN) bk6=>.br (decide (y6.2.2.1<(y6.2.2.2.2.2.1.length:Int))) (.ix y6.2.2.1 y6.2.2.2.2.2.1.length<|.ob (Nc.pre (y6.2.2.2.1,y6.2.2.2.2.2.1.getD y6.2.2.1.toNat default,y6.1,y6.2.1,())/\mVis (y6.2.2.2.1,y6.2.2.2.2.2.1.getD y6.2.2.1.toNat default,y6.1,y6.2.1,())<n0)<|.lt _ (Nc.fn (y6.2.2.2.1,y6.2.2.2.2.2.1.getD y6.2.2.1.toNat default,y6.1,y6.2.1,())) λz4=>.bk (bk6 (z4.1.1,(z4.1.2.1,(w1 y6.2.2.1,(y6.2.2.2.1,(y6.2.2.2.2.1,(y6.2.2.2.2.2.1,())))))))) (.ap y6.2.1.length 32<|.ap (y6.2.1.length+[y6.2.2.2.2.1].length) 32<|GS.out Nc ((y6.1,y6.2.1++[y6.2.2.2.2.1],()),(()))))) ?_;refine Ae ?_ λ_=>(Aa (λh2=>GS.leafY ?_) λh2=>Ed ?_ λ_=>Ed ?_ λ_=>Ae ?_ λ_=>Am ?_ λ(y6:dN) i6=>Aa (λh7=>Ei ?_ λo8 o9=>Ab ?_ λ_=>DS (AR ?_)) λh7=>Ed ?_ λ_=>Ed ?_ λ_=>GS.leafY ?_)<;>have hq:okVis p a s o:=hp<;>obtain⟨p1,p2,p3,p4,p5⟩:=(show okVis p a s o from hp)<;>(have hsl:s.length<=100000000000:=by(simp only[totV] at p4;omega))<;>(have hil:=KJ a p2;try simp only[std,Nat.reduceAdd,RY] at *)<;>(first|trivial|omega|exact⟨p1,p2,p3⟩|exact VT p a s o p5|(rw[S4 ‹_›];exact⟨rfl,rfl⟩)|skip)<;>(obtain⟨⟨⟨i1,e1⟩,e2⟩,e3⟩:=i6;simp only[e1,e2,e3] at *)<;>(have i2:=i1.1;have i3:=Qo i1 hq)<;>(first|trivial|omega|exact⟨i2,‹_›⟩|skip)<;>(first|exact⟨(Kd i1 ‹_› ‹_› hq).1,eC (Kd i1 ‹_› ‹_› hq).2 (Nat.le_of_lt_succ hm)⟩|(rw[Ah o_];simp only[and_true];exact⟨Tt i1 ‹_›,o_⟩)|(rw[<-Qp i1 o_ ‹_›];exact⟨rfl,rfl⟩)))
abbrev GD:Fct:=⟨[.v (.el .page),.v (.el .addr)],[.sl .addr],λ(x:aO)=>okVis x.1 x.2.1 [] [],λ(x:aO)=>(reachOf x.1 x.2.1,())⟩
def Ani:=Aj7.a GD<|Fct.o [2,3,4,6] Aj7.2 func348 (by
 rintro⟨(p:C_),(a:D_),_⟩ hp;refine ho (.ob (Nc.pre (p,a,[],[],()))<|.lt _ (Nc.fn (p,a,[],[],())) λz2=>.lf GD (z2.1.2.1,())) ?_;refine Ab ?_ λ_=>DS (lfY ?_)<;>(try simp only[std,Nat.reduceAdd] at *)<;>(first|assumption|rfl))
def Sg:∀ (f:Nat) (p:C_) (a:D_) (st:bV) (x:D_),x∈(visitF f p a st).2->x∈st.2\/x=a\/x.host.size<=8
 | 0,p,a,st,x,h=>.inl h
 | f+1,p,a,st,x,h=>by
  rw[visitF] at h;split at h
  ·exact .inl h
  ·have hfold:∀ (l:List D_) (s:bV),(∀ y,y∈l->y.host.size<=8)->x∈(l.foldl (λst b=>visitF f p b st) s).2->x∈s.2\/x.host.size<=8:=by
    intro l
    induction l with
    | nil=>intro s _ h;exact .inl h
    | cons b l ih=>
     intro s hl h;rcases ih _ (λy hy=>hl y (cJ _ hy)) h with h|h
     ·rcases Sg f p b s x h with h|h|h
      ·exact .inl h
      ·simp_all
      ·exact .inr h
     ·exact .inr h
   rcases aR.1 h with h|h
   ·rcases hfold _ _ (λy hy=>((Fq p a).1 y hy).1) h with h|h
    ·exact .inl h
    ·exact .inr (.inr h)
   ·simp_all
def J9 {p:C_} {a x:D_} (h:x∈reachOf p a) (ha:a.host.size<=4000000000):x.host.size<=4000000000:=by
 rcases Sg _ p a ([],[]) x h with h|h|h
 ·cases h
 ·exact h▸ha
 ·omega
def JK {p:C_} {a:D_} (h:totV p []<=100000000000):(reachOf p a).length<=100000000001:=by
 have:=PT p a ([],[]);unfold reachOf;simp only[aJ] at this;have h2:(visit p a ([],[])).1.length<=totV p (visit p a ([],[])).1:=cw _ _;omega
def graphReady (p:C_) (a:D_):Bool:=(reachOf p a).all λb=>decide (0<=findMod p.bh b)&&(p.bh.getD (findMod p.bh b).toNat default).done
def graphFails (p:C_) (a:D_):Bool:=(reachOf p a).any λb=>!(imports p b).2
def AeB {α:Type} [Inhabited α] {f:α->Bool} {l:List α} {i:Nat} (h:i<l.length):(l.drop i).all f=(f (l.getD i default)&&(l.drop (i+1)).all f):=by rw[HO h];rfl
def AeZ {α:Type} [Inhabited α] {f:α->Bool} {l:List α} {i:Nat} (h:i<l.length):(l.drop i).any f=(f (l.getD i default)||(l.drop (i+1)).any f):=by rw[HO h];rfl
def Abc {α:Type} {f:α->Bool} {l:List α} {i:Nat} (h:l.length<=i):(l.drop i).all f=true:=by rw[bR h];rfl
def AaT {α:Type} {f:α->Bool} {l:List α} {i:Nat} (h:l.length<=i):(l.drop i).any f=false:=by rw[bR h];rfl
abbrev CO:Fct:=⟨[.v (.el .page),.v (.el .addr)],[.el .bool],λ(x:aO)=>okVis x.1 x.2.1 [] [],λ(x:aO)=>(graphReady x.1 x.2.1,())⟩
abbrev C4 (p:C_) (a:D_):LInv:=⟨[⟨.s,6,true,.el .int⟩,⟨.b,2,false,.el .page⟩,⟨.s,5,true,.sl .addr⟩],λ(z x:av)=>((0<=x.1/\x.1<=(reachOf p a).length/\((reachOf p a).drop x.1.toNat).all (λb=>decide (0<=findMod p.bh b)&&(p.bh.getD (findMod p.bh b).toNat default).done)=graphReady p a)/\x.2.1=z.2.1)/\x.2.2.1=z.2.2.1,λ(x:av)=>(reachOf p a).length-x.1.toNat⟩
def AkV:=Ani.a CO<|Fct.p (KP [2,3,4,5,6,7] [14,33]) (λ⟨p,a,_⟩=>lv [(3,C4 p a)]) Ani.2 func251 (by
 rintro⟨(p:C_),(a:D_),_⟩ hp;refine ho (.cl GD (p,a,()) λz2=>lpx (C4 p a) ((0:Int),(p,(z2.1,()))) λ(y2:av) bk2=>.br (decide (y2.1<(y2.2.2.1.length:Int))) (.ix y2.1 y2.2.2.1.length<|.cl G9 (y2.2.1,y2.2.2.1.getD y2.1.toNat default,()) λ(z3:B_)=>.br (decide (z3.1<0)) (.lf CO (false,())) (.ob (inB z3.1 y2.2.1.bh.length)<|.br (!(y2.2.1.bh.getD z3.1.toNat default).done) (.lf CO (false,())) (.bk (bk2 (w1 y2.1,(y2.2.1,(y2.2.2.1,()))))))) (.lf CO (true,()))) ?_;refine Ae ?_ λ_=>(Am ?_ λ(y2:av) i2=>Aa (λh3=>Ei ?_ λo4 o5=>Ae ?_ λ_=>Aa (λh7=>lfY ?_) λh7=>Ab ?_ λ_=>Aa (λh9=>lfY ?_) λh9=>AR ?_) λh3=>lfY ?_)<;>obtain⟨p1,p2,p3,p4,p5⟩:=(show okVis p a [] [] from hp)<;>(have hl:=JK (a:=a) p4;try simp only[Kj] at *)<;>(try simp only[std,Nat.reduceAdd,Kl] at *)<;>(first|trivial|omega|exact⟨p1,p2,p3,p4,p5⟩|exact⟨o_,o_,rfl⟩|skip)<;>(obtain⟨⟨⟨i0,i1,i3⟩,e1⟩,e2⟩:=i2;simp only[e1,e2] at *)<;>have hf:=BJ p.bh ((reachOf p a).getD y2.1.toNat default)<;>(first|assumption|omega|skip)<;>(first|(rw[Abc o_] at i3;exact i3)|rw[AeB o_] at i3)<;>(first|(rw[<-i3,decide_eq_false o_];rfl)|(rw[<-i3,ee o_,show Y_.done _=false from ‹_›];rfl)|(rw[ee o_,show Y_.done _=true from ‹_›,Bool.true_and,Bool.true_and] at i3;rw[Ah o_,show(y2.1+1).toNat=y2.1.toNat+1 from o_];simp only[and_true];exact⟨⟨o_,o_,i3⟩,o_⟩)))
abbrev DT:Fct:=⟨[.v (.el .page),.v (.el .addr)],[.el .bool],λ(x:aO)=>okVis x.1 x.2.1 [] [],λ(x:aO)=>(graphFails x.1 x.2.1,())⟩
abbrev CV (p:C_) (a:D_):LInv:=⟨[⟨.s,6,true,.el .int⟩,⟨.b,2,false,.el .page⟩,⟨.s,5,true,.sl .addr⟩],λ(z x:av)=>((0<=x.1/\x.1<=(reachOf p a).length/\((reachOf p a).drop x.1.toNat).any (λb=>!(imports p b).2)=graphFails p a)/\x.2.1=z.2.1)/\x.2.2.1=z.2.2.1,λ(x:av)=>(reachOf p a).length-x.1.toNat⟩
def Alz:=AkV.a DT<|Fct.p (KP [2,3,4,5,6,8] [15,28]) (λ⟨p,a,_⟩=>lv [(3,CV p a)]) AkV.2 func349 (by
 rintro⟨(p:C_),(a:D_),_⟩ hp;refine ho (.cl GD (p,a,()) λz2=>lpx (CV p a) ((0:Int),(p,(z2.1,()))) λ(y2:av) bk2=>.br (decide (y2.1<(y2.2.2.1.length:Int))) (.ix y2.1 y2.2.2.1.length<|.cl HT (y2.2.1,y2.2.2.1.getD y2.1.toNat default,()) λz3=>.br (!z3.2.1) (.lf DT (true,())) (.bk (bk2 (w1 y2.1,(y2.2.1,(y2.2.2.1,())))))) (.lf DT (false,()))) ?_;refine Ae ?_ λ_=>(Am ?_ λ(y2:av) i2=>Aa (λh3=>Ei ?_ λo4 o5=>Ae ?_ λ_=>Aa (λh7=>lfY ?_) λh7=>AR ?_) λh3=>lfY ?_)<;>obtain⟨p1,p2,p3,p4,p5⟩:=(show okVis p a [] [] from hp)<;>(have hl:=JK (a:=a) p4;try simp only[Kj] at *)<;>(try simp only[std,Nat.reduceAdd] at *)<;>(first|trivial|omega|exact⟨p1,p2,p3,p4,p5⟩|exact⟨o_,o_,rfl⟩|skip)<;>(obtain⟨⟨⟨i0,i1,i3⟩,e1⟩,e2⟩:=i2;simp only[e1,e2] at *)<;>(first|assumption|omega|exact⟨p1,p2,J9 (AH o_) p3⟩|skip)<;>(first|(rw[AaT o_] at i3;exact i3)|rw[AeZ o_] at i3)<;>(first|(rw[<-i3,show Prod.snd (imports p _)=false from ‹_›];rfl)|(rw[show Prod.snd (imports p _)=true from ‹_›,Bool.not_true,Bool.false_or] at i3;rw[Ah o_,show(y2.1+1).toNat=y2.1.toNat+1 from o_];simp only[and_true];exact⟨⟨o_,o_,i3⟩,o_⟩)))
def bpot (b:af):Nat:=szBuilder b+10*(40-b.bi.length)
def U0 (b:af) (l:List bu) (x:bI):bpot (runLine b l x).1<=bpot b:=by
 unfold runLine;split
 ·exact aa _
 ·split
  ·dsimp only;split
   ·rename_i h;obtain⟨h1,h2,h3⟩:=h;have:=Bx h3;have h0:szL AM []=0:=rfl;have h4:szL BW []=0:=rfl;have h5:ByteArray.size ⟨#[]⟩=0:=rfl;simp only[bpot,szBuilder,Cr,Ag,h0,AM,h4,h5,al,aw,aJ];omega
   ·exact aa _
  ·grind
def MU (l:List bu):∀ (r:List bI) (b:af) (w:ByteArray) (g:List ByteArray),bpot (runLines l r b w g).1<=bpot b
 | [],b,w,g=>aa _
 | x::r,b,w,g=>by rw[runLines];exact bT (MU l r _ _ _) (U0 b l x)
def RP (b:af) (l:List bu) (r:List bI):bpot (runScript b l r).1<=bpot b:=MU l r b _ _
def Rg (b:af) (l:List bu) (r:List bI):(runScript b l r).2.2.length<=r.length:=by
 have:=(IW l r b ⟨#[]⟩ []).2.2;show(runLines l r b ⟨#[]⟩ []).2.2.length<=_;simpa using this
def P8 (b:ByteArray):∀ (l:List ByteArray) (acc:List D_),szL CH (pmGo b l acc).2.1<=366/\(pmGo b l acc).2.1.length<=6
 | [],acc=>⟨Nat.zero_le _,Nat.zero_le _⟩
 | w::l,acc=>by
  rw[pmGo];split
  ·split
   ·exact P8 b l _
   ·exact⟨Nat.zero_le _,Nat.zero_le _⟩
  ·split
   ·exact GM _
   ·exact⟨Nat.zero_le _,Nat.zero_le _⟩
def entLines (p:C_) (b:D_):List bI:=(parseModule (p.bh.getD (findMod p.bh b).toNat default).body b.host).2.1
def K1 (p:C_) (b:D_):szL CH (entLines p b)<=366/\(entLines p b).length<=6:=P8 _ _ _
def entRun (p q:C_) (b:D_):af×ByteArray×List ByteArray:=runScript q.ba (sheetsOf p.bf) (entLines p b)
def enter1 (p q:C_) (b:D_):C_:=if inL q.ran b=true then q else{ q with ran:=q.ran++[b],ba:=(entRun p q b).1,log:=addLog q.log (entRun p q b).2.2 }
def enterAll (p q:C_) (l:List D_):C_:=l.foldl (enter1 p) q
def enter (p:C_) (a:D_):C_:=if graphFails p a=true then say p (⟨#[102,97,105,108,32]⟩++formatAddr a) else enterAll p p (reachOf p a)
def Ut {p q:C_} {l:List D_} {i:Nat} (h:i<l.length):enterAll p q (l.drop i)=enterAll p (enter1 p q (l.getD i default)) (l.drop (i+1)):=by rw[HO h];rfl
def M1 {p q:C_} {l:List D_} {i:Nat} (h:l.length<=i):enterAll p q (l.drop i)=q:=by rw[bR h];rfl
def Xr (l:List ByteArray):∀ g:List ByteArray,(addLog g l).length<=max g.length 40:=by
 induction l with
 | nil=>intro g;rw[Iq];omega
 | cons x l ih=>
  intro g;rw[addLog];grind
def okEnt (p:C_) (a:D_):Prop:=Aj p<=1000000000000/\okVis p a [] []/\szAddr a<=1000000000000/\szBuilder p.ba<=20000000000/\szL AO p.bf<=40000000000/\okBod p
def entInv (p:C_) (a:D_) (q:C_) (i:Int):Prop:=0<=i/\i<=(reachOf p a).length/\enterAll p q ((reachOf p a).drop i.toNat)=enterAll p p (reachOf p a)/\q={ p with ran:=q.ran,ba:=q.ba,log:=q.log }/\bpot q.ba<=bpot p.ba/\q.ran.length<=p.ran.length+i.toNat/\q.log.length<=max p.log.length 40
def logInv (q1:C_) (g:List ByteArray) (q:C_) (k:Int):Prop:=0<=k/\k<=g.length/\q={ q1 with log:=q.log }/\addLog q.log (g.drop k.toNat)=addLog q1.log g
def Wq (q:C_) (g:List ByteArray):logInv q g q 0:=⟨o_,o_,rfl,rfl⟩
def TK {q1 q:C_} {g:List ByteArray} {k:Int} (h:logInv q1 g q k) (hk:k<g.length):logInv q1 g (say q (g.getD k.toNat default)) (k+1):=by
 obtain⟨h1,h2,h3,h4⟩:=h;rw[SX o_] at h4;refine⟨o_,o_,?_,?_⟩
 ·unfold say;grind
 ·rw[show(k+1).toNat=k.toNat+1 from o_];unfold say;split
  ·grind
  ·rename_i hc;rw[J_ hc] at h4;rw[I2 hc];exact h4
def Qs {q1 q:C_} {g:List ByteArray} {k:Int} (h:logInv q1 g q k) (hk:¬ k<g.length):q={ q1 with log:=addLog q1.log g }:=by
 obtain⟨h1,h2,h3,h4⟩:=h;rw[Qn o_] at h4;rw[<-h4];exact h3
def SC {p:C_} {x:D_} (h:(imports p x).2=true):0<=findMod p.bh x:=by
 unfold imports at h;grind
def Mi {p:C_} {a x:D_} (h:graphFails p a=false) (hx:x∈reachOf p a):0<=findMod p.bh x:=by
 unfold graphFails at h;rw[List.any_eq_false] at h;have:=h x hx;refine SC ?_;simp_all
def Vv (p:C_) (a:D_):entInv p a p 0:=⟨o_,o_,rfl,rfl,aa _,aa _,Nat.le_max_left _ _⟩
def Ht {p q:C_} {a:D_} {i:Int} (h:entInv p a q i):q.bh=p.bh/\q.bf=p.bf:=by
 have e:=h.2.2.2.1;grind
def NA {p q:C_} {a:D_} {i:Int} (h:entInv p a q i) (hp:okEnt p a):q.ran.length<=1200000000000/\szBuilder q.ba<=30000000000/\szL DJ (sheetsOf p.bf)<=80000000000/\okSheets (sheetsOf p.bf)/\szL AO p.bf<=40000000000/\(reachOf p a).length<=100000000001/\p.bh.length<=1000000000000:=by
 obtain⟨h1,h2,h3,h4,h5,h6,h7⟩:=h;obtain⟨p1,⟨q1,q2,q3,q4,q5⟩,p3,p4,p5,p6⟩:=hp;have hl:=JK (a:=a) q4;have hs:=Gn p.bf;have hpp:=EZ p;have hr:=Ac szAddr p.ran;have hm:=Ac AF p.bh;have hb:szBuilder q.ba<=bpot q.ba:=cw _ _;have hb2:bpot p.ba<=szBuilder p.ba+400:=by unfold bpot;omega
 grind
def Li {p q:C_} {a:D_} {i:Int} (h:entInv p a q i) (hi:i<(reachOf p a).length):entInv p a (enter1 p q ((reachOf p a).getD i.toNat default)) (i+1):=by
 obtain⟨h1,h2,h3,h4,h5,h6,h7⟩:=h;rw[Ut o_] at h3;refine⟨o_,o_,by rw[show(i+1).toNat=i.toNat+1 from o_];exact h3,?_,?_,?_,?_⟩
 ·unfold enter1;grind
 ·unfold enter1;split
  ·exact h5
  ·exact bT (RP _ _ _) h5
 ·unfold enter1;grind
 ·unfold enter1;split
  ·exact h7
  ·have:=Xr (entRun p q ((reachOf p a).getD i.toNat default)).2.2 q.log;grind
def Ya (p q:C_) (b:D_):runScript q.ba (sheetsOf p.bf) (parseModule (p.bh.getD (findMod p.bh b).toNat default).body b.host).2.1=entRun p q b:=rfl
def PP (a:D_):(formatAddr a).size<=szAddr a+1:=by
 unfold formatAddr;split
 ·rw[aQ,aQ];simp only[szAddr,show ByteArray.size ⟨#[47]⟩=1 from rfl];omega
 ·exact Nat.zero_le _
abbrev W2:Fct:=⟨[.v (.el .page),.v (.el .addr)],[.el .page],λ(x:aO)=>okEnt x.1 x.2.1,λ(x:aO)=>(enter x.1 x.2.1,())⟩
abbrev Fx (p:C_) (a:D_):LInv:=⟨[⟨.b,5,true,.el .page⟩,⟨.s,7,true,.el .int⟩,⟨.b,4,true,.el .page⟩,⟨.s,6,true,.sl .addr⟩],λ(z x:bw)=>((entInv p a x.1 x.2.1)/\x.2.2.1=z.2.2.1)/\x.2.2.2.1=z.2.2.2.1,λ(x:bw)=>(reachOf p a).length-x.2.1.toNat⟩
abbrev Ez (p:C_) (a:D_):LInv:=⟨[⟨.b,5,true,.el .page⟩,⟨.s,14,true,.el .int⟩,⟨.s,13,true,.sl .str⟩,⟨.s,6,true,.sl .addr⟩,⟨.b,4,true,.el .page⟩],λ(z x:dO)=>(x.2.2.1=z.2.2.1/\x.2.2.2.1=z.2.2.2.1/\logInv z.1 z.2.2.1 x.1 x.2.1)/\x.2.2.2.2.1=z.2.2.2.2.1,λ(x:dO)=>x.2.2.1.length-x.2.1.toNat⟩
def Alf:=Alz.a W2<|Fct.p (KP [2,3,4,5,6,7,9,11,13,14] [19,31,40,86]) (λ⟨p,a,_⟩=>λ|6=>some (Fx p a)|14=>some (Ez p a)|_=>none) Alz.2 func252 (by
 rintro⟨(p:C_),(a:D_),_⟩ hp;refine ho (let E_:=(⟨#[102,97,105,108,32]⟩:ByteArray);.cl AA (p,()) λz2=>.cl DT (p,a,()) λz3=>.br (z3.1) (.cl D5 (a,()) λz4=>.ob (sameSize E_ z4.1)<|.ob (Ab7.pre (z2.1,E_++z4.1,()))<|.lt _ (Ab7.fn (z2.1,E_++z4.1,())) λz5=>.lf W2 (z5.1.1,())) (.cl GD (p,a,()) λz6=>lpx (Fx p a) (z2.1,((0:Int),(default,(z6.1,())))) λ(y7:bw) bk7=>let H_:=({y7.1 with ran:=y7.1.ran++[y7.2.2.2.1.getD y7.2.1.toNat default]}:C_);.br (decide (y7.2.1<(y7.2.2.2.1.length:Int))) (.ix y7.2.1 y7.2.2.2.1.length<|.cl Fc (y7.1.ran,y7.2.2.2.1.getD y7.2.1.toNat default,()) λz7=>.br (z7.1) (.bk (bk7 (y7.1,(w1 y7.2.1,(y7.2.2.1,(y7.2.2.2.1,())))))) (.ix y7.2.1 y7.2.2.2.1.length<|.ap (y7.1.ran.length+[y7.2.2.2.1.getD y7.2.1.toNat default].length) 32<|.ix y7.2.1 y7.2.2.2.1.length<|.cl G9 (H_,y7.2.2.2.1.getD y7.2.1.toNat default,()) λ(z8:B_)=>.ix z8.1 y7.1.bh.length<|.ix y7.2.1 y7.2.2.2.1.length<|.cl BK ((y7.1.bh.getD z8.1.toNat default).body,(y7.2.2.2.1.getD y7.2.1.toNat default).host,()) λz9=>.cl HD (H_,()) λz10=>.cl Gu (y7.1.ba,z10.1,z9.2.1,()) λz11=>lpx (Ez p a) (({y7.1 with ba:=z11.1,ran:=y7.1.ran++[y7.2.2.2.1.getD y7.2.1.toNat default]}:C_),((0:Int),(z11.2.2.1,(y7.2.2.2.1,(y7.2.2.1,()))))) λ(y27:dO) bk27=>.br (decide (y27.2.1<(y27.2.2.1.length:Int))) (.ix y27.2.1 y27.2.2.1.length<|.ob (Ab7.pre (y27.1,y27.2.2.1.getD y27.2.1.toNat default,()))<|.lt _ (Ab7.fn (y27.1,y27.2.2.1.getD y27.2.1.toNat default,())) λz12=>.re (Value.int IntKind.i64 y7.2.1)<|.bk (bk27 (z12.1.1,(w1 y27.2.1,(y27.2.2.1,(y27.2.2.2.1,(y27.2.2.2.2.1,()))))))) (.bk (bk7 (y27.1,(w1 y7.2.1,(y27.2.2.2.2.1,(y27.2.2.2.1,())))))))) (.lf W2 (y7.1,())))) ?_;refine Ae ?_ λ_=>(Ae ?_ λ_=>Aa (λh3=>Ae ?_ λ_=>Ab ?_ λ_=>Ab trivial λ_=>DS (lfY ?_)) λh3=>Ae ?_ λ_=>Am ?_ λ(y7:bw) i7=>Aa (λh8=>Ei ?_ λo9 o10=>Ae ?_ λ_=>Aa (λh12=>AR ?_) λh12=>Ei ?_ λo14 o15=>Ed ?_ λ_=>Ei ?_ λo17 o18=>Ae ?_ λ_=>Ei ?_ λo20 o21=>Ei ?_ λo22 o23=>Ae ?_ λ_=>Ae ?_ λ_=>Ae ?_ λ_=>Am ?_ λ(y27:dO) i27=>Aa (λh28=>Ei ?_ λo29 o30=>Ab trivial λ_=>DS (Ai<|AR ?_)) λh28=>AR ?_) λh8=>lfY ?_)<;>have hq:okEnt p a:=hp<;>obtain⟨p1,p2,p3,p4,p5,p6⟩:=(show okEnt p a from hp)<;>(have hfa:=PP a;try simp only[std,Nat.reduceAdd,Kl,RY] at *)<;>(first|trivial|omega|exact p2|(unfold sameSize;rw[show ByteArray.size ⟨#[102,97,105,108,32]⟩=5 from rfl];omega)|exact Vv p a|(unfold enter;rw[I_ ‹_›])|skip)<;>(obtain⟨⟨i1,e1⟩,e2⟩:=i7;have em:=(Ht i1).1;have es:=(Ht i1).2;have i0:=i1.1;have iz:=NA i1 hq)<;>(try simp only[e2,em,es,Ya] at *)<;>(first|trivial|omega|skip)<;>(try have hmem:=AH (l:=reachOf p a) (i:=y7.2.1.toNat) o_;have hfnd:=Mi ‹_› hmem;have hfi:=BJ p.bh ((reachOf p a).getD y7.2.1.toNat default))<;>(first|exact⟨hfnd,hfi.1⟩|exact⟨o_,p6⟩|exact⟨p2.2.1 _ o_,J9 hmem p2.2.2.1⟩|exact⟨o_,o_,bT (K1 p _).1 (by decide),iz.2.2.2.1⟩|exact Wq _ _|(rw[Ah o_];have e:=Li i1 o_;unfold enter1 at e;rw[I_ ‹_›] at e;exact⟨⟨⟨e,e1⟩,trivial⟩,o_⟩)|(unfold enter;rw[J_ (by intro q;exact tf q ‹_›)];have e:=i1.2.2.1;rw[M1 o_] at e;exact e)|skip)<;>(obtain⟨⟨j1,j2,j3⟩,j4⟩:=i27;simp only[j1,j2,j4] at *;have j0:=j3.1;have hgl:=bT (Rg y7.1.ba (sheetsOf p.bf) (entLines p ((reachOf p a).getD y7.2.1.toNat default))) (K1 p _).2;rw[show runScript y7.1.ba (sheetsOf p.bf) (entLines p ((reachOf p a).getD y7.2.1.toNat default))=entRun p y7.1 ((reachOf p a).getD y7.2.1.toNat default) from rfl] at hgl)<;>(first|exact⟨j0,‹_›⟩|(rw[Ah o_];simp only[and_true,true_and];exact⟨TK j3 ‹_›,o_⟩)|skip)<;>(have e:=Qs j3 o_;have em2:=Ht i1;have e5:y27.1=enter1 p y7.1 ((reachOf p a).getD y7.2.1.toNat default):=by rw[e];unfold enter1;rw[J_ (by intro q;exact tf q ‹_›)];simp only[em2.1,em2.2])<;>rw[Ah o_,e5]<;>exact⟨⟨⟨Li i1 o_,by first|trivial|assumption⟩,by first|trivial|assumption⟩,o_⟩)
def AeH (g:Y_->Bool):∀ l:List Y_,wtL g l<=szL AF l
 | []=>aa _
 | m::l=>by have:=AeH g l;rw[wtL,Ag];split<;>simp only[AF]<;>omega
def An3 (p:C_):totV p []<=szL AF p.bh:=by
 unfold totV;rw[Tc,aJ,cx];exact AeH _ _
def okTail (p:C_):Prop:=okParse p/\okMb p/\szL AF p.bh<=50000000000/\∀ i,i<p.bg.length->(p.bg.getD i default).host.size<=4000000000
def Ps {p:C_} (h:okTail p) {i:Nat} (hi:i<p.bg.length):okEnt p (p.bg.getD i default):=by
 obtain⟨⟨⟨h1,h1a,h1b,h1c,h1e⟩,h1d,h1f⟩,h2,h2a,h3⟩:=h;have hpp:=EZ p;have ht:=An3 p;have hm:=Ac AF p.bh;have ha:=C6 szAddr hi;exact⟨h1,⟨o_,h2,h3 i hi,o_,aa _⟩,o_,by unfold szBuilder;omega,h1d,h1f⟩
def defSlot (p:C_):ay:=p.bf.getD ((deferredSlots p).getD p.bm.toNat default).toNat default
def entNow (p:C_):D_:=p.bg.getD p.bq.toNat default
def tailDefer (p:C_):C_×Bool :=
 if(defSlot p).done=false\/stylesReady p.bf=false then(p,false)
 else if(defSlot p).code=1 then({ runCode p (defSlot p).body false with bm:=p.bm+1 },true)
 else({ p with bm:=p.bm+1 },true)
def tailEnter (p:C_):C_×Bool :=
 if graphReady p (entNow p)=false\/stylesReady p.bf=false then(p,false)
 else({ enter p (entNow p) with bq:=p.bq+1 },true)
def stepTail (p:C_):C_×Bool :=
 if isParsed p=false\/p.loaded=true\/p.bm<0\/p.bq<0 then(p,false)
 else if p.bm<(deferredSlots p).length then tailDefer p
 else if p.bq<p.bg.length then tailEnter p
 else if 0<(openSlots p).length\/0<(openMods p).length then(p,false)
 else({ say p ⟨#[108,111,97,100]⟩ with loaded:=true },true)
def Ke (p:C_) (h:0<=p.bm) (h2:p.bm<(deferredSlots p).length):0<=(deferredSlots p).getD p.bm.toNat default/\(deferredSlots p).getD p.bm.toNat default<p.bf.length:=by
 have hm:=AH (l:=deferredSlots p) (i:=p.bm.toNat) o_;have:=Hq (λs:ay=>decide (s.mode=4)) p.bf 0 _ hm;omega
def Oh (p:C_):p.bf.getD ((deferredSlots p).getD p.bm.toNat default).toNat default=defSlot p:=rfl
def Qf (p:C_):p.bg.getD p.bq.toNat default=entNow p:=rfl
abbrev CB:Fct:=⟨[.v (.el .page)],[.el .page,.el .bool],λ(x:ak)=>okTail x.1,λ(x:ak)=>((stepTail x.1).1,(stepTail x.1).2,())⟩
def Am8:=Alf.a CB<|Fct.o (KP [1,2,3,4,5,6,7] [26,34,51,59,78,93,112]) Alf.2 func149 (by
 rintro⟨(p:C_),_⟩ hp;refine ho (let M_:=(⟨#[108,111,97,100]⟩:ByteArray);.cl AA (p,()) λz2=>let E_:Out:=.lf CB (z2.1,false,());.cl EC (p,()) λz3=>.br (!z3.1) E_ (.br (p.loaded) E_ (.br (decide (p.bm<0)) E_ (.br (decide (p.bq<0)) E_ (.cl DF (p,()) λ(z4:W_)=>let L_:=p.bf.getD (z4.1.getD p.bm.toNat default).toNat default;let H_:=0<=z4.1.getD p.bm.toNat default/\z4.1.getD p.bm.toNat default<(p.bf.length:Int);.br (decide (p.bm<(z4.1.length:Int))) (.ix p.bm z4.1.length<|.ob H_<|.br (!L_.done) E_ (.cl Bc (p,()) λz5=>.br (!z5.1) E_ (.ob H_<|.br (L_.code==1) (.ob H_<|.cl DM (p,L_.body,false,()) λz6=>.lf CB ({z6.1 with bm:=w1 p.bm},true,())) (.lf CB ({z2.1 with bm:=w1 p.bm},true,()))))) (.br (decide (p.bq<(p.bg.length:Int))) (.ob (inB p.bq p.bg.length)<|.cl CO (p,p.bg.getD p.bq.toNat default,()) λz7=>.br (!z7.1) E_ (.cl Bc (p,()) λz8=>.br (!z8.1) E_ (.cl W2 (p,p.bg.getD p.bq.toNat default,()) λz9=>.lf CB ({z9.1 with bq:=w1 p.bq},true,())))) (.cl FF (p,()) λ(z10:W_)=>.br (decide ((z10.1.length:Int)>0)) E_ (.cl GY (p,()) λ(z11:W_)=>.br (decide ((z11.1.length:Int)>0)) E_ (.ob (Ab7.pre (z2.1,M_,()))<|.lt _ (Ab7.fn (z2.1,M_,())) λz12=>.lf CB ({z12.1.1 with loaded:=true},true,())))))))))) ?_;refine Ae ?_ λ_=>(Ae trivial λ_=>Aa (λh2=>lfY ?_) λh2=>Aa (λh3=>lfY ?_) λh3=>Aa (λh4=>lfY ?_) λh4=>Aa (λh5=>lfY ?_) λh5=>Ae ?_ λ_=>Aa (λh7=>Ei ?_ λo8 o9=>Ab ?_ λ_=>Aa (λh11=>lfY ?_) λh11=>Ae ?_ λ_=>Aa (λh13=>lfY ?_) λh13=>Ab ?_ λ_=>Aa (λh15=>Ab ?_ λ_=>Ae ?_ λ_=>lfY ?_) λh15=>lfY ?_) λh7=>Aa (λh18=>Ab ?_ λ_=>Ae ?_ λ_=>Aa (λh21=>lfY ?_) λh21=>Ae ?_ λ_=>Aa (λh23=>lfY ?_) λh23=>Ae ?_ λ_=>lfY ?_) λh18=>Ae ?_ λ_=>Aa (λh26=>lfY ?_) λh26=>Ae ?_ λ_=>Aa (λh28=>lfY ?_) λh28=>Ab trivial λ_=>DS (lfY ?_))<;>have hq:okTail p:=hp<;>obtain⟨⟨⟨hp1,hp2,hp3,hp4,hp9⟩,hp8,hp5⟩,hp6,hp10,hp7⟩:=(show okTail p from hp)<;>(have hbb:szBuilder p.ba<=2000000000:=by(unfold szBuilder;omega))<;>(have hpp:=EZ p;have hsl:=Ac AO p.bf;have hml:=Ac AF p.bh;have hel:=Ac szAddr p.bg;have hdl:(deferredSlots p).length<=p.bf.length:=Dn _ _ _;try simp only[Kj] at *)<;>(try simp only[std,Nat.reduceAdd,Oh,Qf] at *)<;>(first|trivial|omega|skip)<;>have hds:0<=p.bm->p.bm<(deferredSlots p).length->(defSlot p).body.size<=4200000000:=λa b=>hp5 _ (by have:=Ke p a b;omega)<;>have hes:0<=p.bq->p.bq<p.bg.length->okEnt p (entNow p):=λa b=>Ps hq o_<;>(first|exact Ke p ‹_› ‹_›|exact⟨hp1,o_,o_,hds ‹_› ‹_›,hp5⟩|exact hes ‹_› ‹_›|exact(hes ‹_› ‹_›).2.1|skip)<;>unfold stepTail<;>(repeat first|rw[I_ (by first|assumption|omega|exact .inl ‹_›|exact .inr ‹_›|exact .inr (.inl ‹_›)|exact .inr (.inr (.inl o_))|exact .inr (.inr (.inr o_))|exact .inl o_|exact .inr o_)]|rw[J_ (by first|omega|(rintro(q|q|q|q)<;>first|omega|exact tf ‹_› q|exact tf q ‹_›)|(rintro(q|q)<;>first|omega|exact tf ‹_› q))]|unfold tailDefer|unfold tailEnter)<;>(first|exact⟨rfl,rfl⟩|(rw[Ah o_];exact⟨rfl,rfl⟩)))
def undS:List ay->Nat
 | []=>0
 | s::l=>(if s.done=true then 0 else 1)+undS l
def undM:List Y_->Nat
 | []=>0
 | m::l=>(if m.done=true then 0 else 1)+undM l
def nrL (r:List D_):List Y_->Nat
 | []=>0
 | m::l=>(if inL r m.to=true then 0 else szAddr m.to+1)+nrL r l
def Nw:∀ l k:List ay,undS (l++k)=undS l+undS k
 | [],k=>(cx _).symm
 | s::l,k=>by rw[dp,undS,undS,Nw l k];omega
def Nr:∀ l k:List Y_,undM (l++k)=undM l+undM k
 | [],k=>(cx _).symm
 | s::l,k=>by rw[dp,undM,undM,Nr l k];omega
def QG (r:List D_):∀ l k:List Y_,nrL r (l++k)=nrL r l+nrL r k
 | [],k=>(cx _).symm
 | s::l,k=>by rw[dp,nrL,nrL,QG r l k];omega
def Wr (r:List D_) (b:D_):∀ l:List Y_,nrL (r++[b]) l<=nrL r l
 | []=>aa _
 | m::l=>by
  have:=Wr r b l;rw[nrL,nrL,KK];cases inL r m.to with
  | true=>rw[Bool.true_or,I_ rfl];omega
  | false=>
   rw[Bool.false_or,J_ (show ¬ false=true by decide)];split<;>omega
def V8 (r:List D_) (b:D_) (hb:inL r b=false):∀ (l:List Y_) (i:Nat),i<l.length->(l.getD i default).to=b->nrL (r++[b]) l+szAddr b+1<=nrL r l
 | [],i,h,_=>absurd h (Nat.not_lt_zero _)
 | m::l,0,_,he=>by
  have he:m.to=b:=he;have:=Wr r b l;rw[nrL,nrL,he,KK,hb,Ua,ee rfl,Bool.false_or,I_ rfl,J_ (by decide)];omega
 | m::l,i+1,h,he=>by
  have ih:=V8 r b hb l i (by simpa using h) he;rw[nrL,nrL,KK];cases inL r m.to with
  | true=>rw[Bool.true_or,I_ rfl];omega
  | false=>
   rw[Bool.false_or,J_ (show ¬ false=true by decide)];split<;>omega
def nodeP (b:af):Nat:=szL AM b.bi+4000010*(40-b.bi.length)
def openP (b:af):Nat:=b.bl.length+(40-b.bi.length)
def slotP (l:List ay):Nat:=szL AO l+400*undS l+500000800*(20-l.length)
def entP (l:List D_):Nat:=szL szAddr l+100*(20-l.length)
def modP (l:List Y_) (n:Nat):Nat:=szL AF l+500*undM l+600*(20-n)
def logP (l:List ByteArray):Nat:=szL Af l+200*(40-l.length)
def ranP (l:List Y_) (r:List D_) (n:Nat):Nat:=szL szAddr r+nrL r l+100*(20-n)
def okQ (q:List ao) (Q:Nat):Prop:=(∀ t,t∈q->szToken t<=4000000)/\szL szToken q<=Q
def okB (b:af):Prop:=nodeP b<=200000000/\openP b<=3000000
def okS (l:List ay):Prop:=slotP l<=13000000000/\∀ s,s∈l->s.body.size<=2000000
def okE (l:List Y_) (e r:List D_) (M R:Nat):Prop:=entP e<=3000000/\modP l e.length<=M/\ranP l r e.length<=R/\∀ m,m∈l->m.body.size<=2000000
def okLg (g:List ByteArray):Prop:=logP g<=3000000
def okCm (p:C_):Prop:=AQ p.bj+szAddr p.addr<=4000000/\p.tok.rest.size<=4000000
def okAll (p:C_) (Q M R:Nat):Prop:=okQ p.bn Q/\okB p.ba/\okS p.bf/\okE p.bh p.bg p.ran M R/\okLg p.log/\okCm p
def Qu {q:List ao} {Q Q':Nat} (h:okQ q Q) (hq:Q<=Q'):okQ q Q':=⟨h.1,bT h.2 hq⟩
def Gw {p:C_} {Q Q' M R:Nat} (h:okAll p Q M R) (hq:Q<=Q'):okAll p Q' M R:=⟨Qu h.1 hq,h.2⟩
def AfI {b:af} {t:ao} (h:okB b) (ht:szToken t<=4000000):okB (addToken b t).1:=by
 obtain⟨h1,h2⟩:=h;unfold addToken;split
 ·have:=MC b t.name _ (aa _);refine⟨h1,?_⟩;unfold openP at *
  show(closeN b t.name b.bl.length).length+(40-b.bi.length)<=_;omega
 ·split
  ·rename_i hc;have hc:=hc.1;have h0:szL AM []=0:=rfl;have h3:szL BW []=0:=rfl;have h4:ByteArray.size ⟨#[]⟩=0:=rfl;split
   ·refine⟨?_,?_⟩
    ·unfold nodeP at *
     dsimp only;rw[Cr,Ag,h0,al,ed];simp only[AM,szToken,h4] at *;omega
    ·unfold openP at *
     dsimp only;rw[al,ed];split
     ·omega
     ·rw[al,ed];omega
   ·refine⟨?_,?_⟩
    ·unfold nodeP at *
     dsimp only;rw[Cr,Ag,h0,al,ed];simp only[AM,szToken,h4,h3] at *;omega
    ·unfold openP at *
     dsimp only;rw[al,ed];omega
  ·exact⟨h1,h2⟩
def WM {b:af} (l:List bu) (x:bI) (h:okB b):okB (runLine b l x).1:=by
 unfold runLine;split
 ·exact h
 ·split
  ·dsimp only;split
   ·rename_i hc;obtain⟨c1,c2,c3⟩:=hc;obtain⟨h1,h2⟩:=h;have:=Bx c3;have h0:szL AM []=0:=rfl;have h3:szL BW []=0:=rfl;have h4:ByteArray.size ⟨#[]⟩=0:=rfl;refine⟨?_,?_⟩
    ·unfold nodeP at *
     dsimp only;rw[Cr,Ag,h0,al,ed];simp only[AM,h4,h3] at *;omega
    ·unfold openP at *
     dsimp only;rw[al,ed];omega
   ·exact h
  ·split
   ·exact h
   ·split
    ·exact h
    ·split<;>exact h
def On (l:List bu):∀ (r:List bI) (b:af) (w:ByteArray) (g:List ByteArray),okB b->okB (runLines l r b w g).1
 | [],b,w,g,h=>h
 | x::r,b,w,g,h=>by rw[runLines];exact On l r _ _ _ (WM l x h)
def AdW {b:af} {l:List bu} {x:bI} (hl:okSheets l) (hb:b.bi.length<=9000000000000000000) (hx:x.text.size<=60):(runLine b l x).2.2.size<=199:=by
 have h0:ByteArray.size ⟨#[]⟩=0:=rfl;have hc:=M2 x.text b.bi;have hk:=PJ hl x.text;have f1:=NZ (n:=countName x.text b.bi) o_ o_;have f2:=NZ (n:=colorOf l x.text) hk.1 hk.2;have s1:ByteArray.size ⟨#[99,111,117,110,116,32]⟩=6:=rfl;have s2:ByteArray.size ⟨#[32]⟩=1:=rfl;have s3:ByteArray.size ⟨#[108,111,111,107,32]⟩=5:=rfl;have s4:ByteArray.size ⟨#[115,97,121,32]⟩=4:=rfl;unfold runLine;split
 ·dsimp only;omega
 ·split
  ·dsimp only;omega
  ·split
   ·dsimp only;rw[aQ,aQ,aQ];omega
   ·split
    ·dsimp only;rw[aQ,aQ,aQ];omega
    ·split
     ·dsimp only;rw[aQ];omega
     ·dsimp only;omega
def NF (l:List bu) (hl:okSheets l):∀ (r:List bI) (b:af) (w:ByteArray) (g:List ByteArray),okB b->(∀ x,x∈r->x.text.size<=60)->(∀ s,s∈g->s.size<=199)->∀ s,s∈(runLines l r b w g).2.2->s.size<=199
 | [],b,w,g,_,_,hg=>hg
 | x::r,b,w,g,hb,hr,hg=>by
  rw[runLines];have hn:b.bi.length<=9000000000000000000:=by have:=Ac AM b.bi;have h1:=hb.1;unfold nodeP at h1;omega
  have hx:=AdW hl hn (hr x cZ);refine NF l hl r _ _ _ (WM l x hb) (λy hy=>hr y (cJ _ hy)) λs hs=>?_
  split at hs
  ·exact hg s hs
  ·rcases aR.1 hs with hs|hs
   ·exact hg s hs
   ·rw[List.mem_singleton] at hs;rw[hs];exact hx
def OM:∀ (l g:List ByteArray),(∀ s,s∈l->s.size<=199)->okLg g->okLg (addLog g l)
 | [],g,_,h=>by rw[Iq];exact h
 | x::l,g,hl,h=>by
  rw[addLog];split
  ·refine OM l _ (λs hs=>hl s (cJ _ hs)) ?_;have:=hl x cZ;have h0:szL Af []=0:=rfl;unfold okLg logP at *
   rw[Cr,Ag,h0,al,ed];simp only[Af] at *;omega
  ·exact h
def ZX {p:C_} {Q M R:Nat} (h:okAll p Q M R) {s:ByteArray} (hs:s.size<=199):okAll (say p s) Q M R:=by
 obtain⟨h1,h2,h3,h4,h5,h6⟩:=h;have e:=OM [s] p.log (λx hx=>by rw[List.mem_singleton] at hx;rw[hx];exact hs) h5;unfold say;split
 ·rename_i hc;rw[addLog,I_ hc,Iq] at e;exact⟨h1,h2,h3,h4,e,h6⟩
 ·exact⟨h1,h2,h3,h4,h5,h6⟩
def Pw (s:ByteArray):∀ x,x∈(parseScript s).1->x.text.size<=60:=by
 intro x hx;unfold parseScript at hx;split at hx
 ·cases hx
 ·split at hx
  ·rename_i hc;obtain⟨w,hw,rfl⟩:=eu.1 hx;have:=hc.2;rw[allOk8,bM] at this;exact Pb w _ _ (this w hw)
  ·cases hx
def Abs {p:C_} {Q M R:Nat} (h:okAll p Q M R) (c:ByteArray) (w:Bool):okAll (runCode p c w) (Q+370) M R:=by
 obtain⟨h1,h2,h3,h4,h5,h6⟩:=h;unfold runCode;split
 ·refine⟨?_,On _ _ _ _ _ h2,h3,h4,OM _ _ (NF _ (Gn _).2 _ _ _ _ h2 (Pw c) λs hs=>by cases hs) h5,h6⟩;dsimp only;split
  ·have ht:=IM (rsOf p c).2.1;have hr:=(ZU p c).2.1;refine⟨λt ht2=>?_,?_⟩
   ·rcases aR.1 ht2 with q|q
    ·have hg:=Jn szToken q;omega
    ·exact h1.1 t q
   ·rw[Cr];have:=h1.2;omega
  ·exact Qu h1 o_
 ·exact⟨Qu h1 o_,h2,h3,h4,OM _ _ (λs hs=>by rw[List.mem_singleton] at hs;rw[hs];decide) h5,h6⟩
def Hj (s b:ByteArray):szAddr (parseAddr s b).1<=16:=by
 unfold parseAddr;split
 ·rename_i h;rw[Z_] at h;have h1:=Bx h.1;have h2:=Bx h.2;simp only[szAddr];omega
 ·decide
def Yq (p:C_) (m:Int) (to d:ByteArray) (n:Int):AO (newSlot p m to d n)<=16+d.size/\(newSlot p m to d n).body.size=0:=by
 have h:=Hj to p.addr.host;have h4:ByteArray.size ⟨#[]⟩=0:=rfl;unfold newSlot;split
 ·exact⟨by simp only[rawSlot,AO,h4];omega,h4⟩
 ·exact⟨by simp only[AO,h4];omega,h4⟩
def Rc {p:C_} {Q M R:Nat} (h:okAll p Q M R) (m:Int) (to d:ByteArray) (n:Int) (hd:d.size<=200000000):okAll (addSlot p m to d n).1 Q M R:=by
 obtain⟨h1,h2,h3,h4,h5,h6⟩:=h;unfold addSlot;split
 ·rename_i hc;have hn:=Yq p m to d n;refine⟨h1,h2,⟨?_,λs hs=>?_⟩,h4,h5,h6⟩
  ·have h0:szL AO []=0:=rfl;have hu:undS [newSlot p m to d n]<=1:=by rw[undS,undS];split<;>omega
   have h7:=h3.1;unfold slotP at *
   dsimp only;rw[Cr,Ag,h0,Nw,al,ed];omega
  ·rcases aR.1 hs with hs|hs
   ·exact h3.2 s hs
   ·rw[List.mem_singleton] at hs;rw[hs,hn.2];decide
 ·exact⟨h1,h2,h3,h4,h5,h6⟩
def Abt (p:C_) (a:D_):(newMod p a).to=a/\(newMod p a).body.size=0:=by
 unfold newMod;split<;>exact⟨rfl,rfl⟩
def Aap {α:Type} (f:α->Nat) (l:List α) (i:Nat):szL f (l.take i)+szL f (l.drop i)=szL f l:=by
 rw[<-Cr,eg]
def ZG (l:List Y_) (i:Nat):undM (l.take i)+undM (l.drop i)=undM l:=by rw[<-Nr,eg]
def AeD (r:List D_) (l:List Y_) (i:Nat):nrL r (l.take i)+nrL r (l.drop i)=nrL r l:=by rw[<-QG,eg]
def Aey (p:C_) (a:D_):szL AF (askModule p a).bh<=szL AF p.bh+szAddr a+1/\undM (askModule p a).bh<=undM p.bh+1/\nrL p.ran (askModule p a).bh<=nrL p.ran p.bh+szAddr a+1/\(∀ m,m∈(askModule p a).bh->m∈p.bh\/m.body.size=0)/\askModule p a={ p with bh:=(askModule p a).bh }:=by
 unfold askModule;split
 ·exact⟨o_,o_,o_,λm h=>.inl h,rfl⟩
 ·obtain⟨n1,n2⟩:=Abt p a;have e1:=Aap AF p.bh (askFrom a p.bh);have e2:=ZG p.bh (askFrom a p.bh);have e3:=AeD p.ran p.bh (askFrom a p.bh);refine⟨?_,?_,?_,λm h=>?_,rfl⟩
  ·dsimp only;rw[Cr,Ag];simp only[AF,n1,n2] at *;omega
  ·dsimp only;rw[Nr,undM];split<;>omega
  ·dsimp only;rw[QG,nrL,n1];split<;>omega
  ·rcases aR.1 h with h|h
   ·exact .inl (gu h)
   ·rcases cp.1 h with h|h
    ·rw[h];exact .inr n2
    ·exact .inl (gw h)
def Ad0 {p:C_} {Q M R:Nat} (h:okAll p Q M R) (to:ByteArray):okAll (addEntry p to) Q M R:=by
 unfold addEntry;split
 ·rename_i hc;obtain⟨h1,h2,h3,⟨h4,h7,h8,h9⟩,h5,h6⟩:=h;obtain⟨a1,a2,a3,a4,a5⟩:=Aey p (parseAddr to p.addr.host).1;have ha:=Hj to p.addr.host;have h0:szL szAddr []=0:=rfl;rw[a5];refine⟨h1,h2,h3,⟨?_,?_,?_,λm hm=>?_⟩,h5,h6⟩
  ·unfold entP at *
   rw[Cr,Ag,h0,al,ed];omega
  ·unfold modP at *
   dsimp only;rw[al,ed];omega
  ·unfold ranP at *
   dsimp only;rw[al,ed];omega
  ·rcases a4 m hm with hm|hm
   ·exact h9 m hm
   ·omega
 ·exact h
def Xg {p:C_} {Q M R:Nat} (h:okAll p Q M R) (t:ao) (n:Int) (ht:szToken t<=4000000):okAll (element p t n) Q M R:=by
 have hd:=AV t.bo ⟨#[100,105,103,101,115,116]⟩;have hs:szL BW t.bo<=szToken t:=by simp only[szToken];omega
 unfold element;split
 ·exact Rc h _ _ _ _ o_
 ·split
  ·exact Rc h _ _ _ _ o_
  ·exact h
def Aa0 {p:C_} {Q M R:Nat} (h:okAll p Q M R) (n:Int):okAll (script p n) Q M R:=by
 have hd:=AV (p.ba.bi.getD n.toNat default).bo ⟨#[100,105,103,101,115,116]⟩;have hs:szL BW (p.ba.bi.getD n.toNat default).bo<=200000000:=by
  by_cases hn:n.toNat<p.ba.bi.length
  ·have:=Mq p.ba.bi n.toNat hn;have h2:=h.2.1.1;unfold nodeP at h2;omega
  ·rw[cd,List.getElem?_eq_none o_];exact Nat.zero_le _
 unfold script;split
 ·split
  ·exact h
  ·exact h
 ·split
  ·exact Rc h _ _ _ _ o_
  ·split
   ·exact Ad0 h _
   ·exact Rc h _ _ _ _ o_
def AcB {p:C_} {Q M R:Nat} (h:okAll p Q M R) (hq:0<p.bn.length):okAll (taken p (p.bn.getD 0 default)) Q M R:=by
 obtain⟨h1,h2,h3,h4,h5,h6⟩:=h;have ht:=h1.1 _ (AH hq);have hz:=(QL p hq).2;exact⟨⟨λt hm=>h1.1 t (gw hm),by have:=h1.2;show szL szToken (p.bn.drop 1)<=Q;omega⟩,AfI h2 ht,h3,h4,h5,h6⟩
def Ag2 {p:C_} {Q M R:Nat} (h:okAll p Q M R):okAll (takeToken p).1 Q M R:=by
 unfold takeToken;split
 ·exact h
 ·rename_i hc;have hq:0<p.bn.length:=o_
  have ht:=h.1.1 _ (AH hq);have hk:=AcB h hq;unfold takeTok;split
  ·exact Xg hk _ _ ht
  ·split
   ·exact Aa0 hk _
   ·exact hk
def AaZ {p:C_} {Q M R:Nat} (h:okAll p Q M R):okAll (stepParser p).1 (Q+370) M R:=by
 have hm:=Gw h (cw Q 370);unfold stepParser;split
 ·unfold stepInline;split
  ·exact Abs h _ _
  ·exact hm
 ·split
  ·unfold stepBlock;split
   ·exact hm
   ·split
    ·exact hm
    ·split
     ·exact Abs h _ _
     ·exact hm
  ·exact Ag2 hm
def AaM (b:ByteArray):∀ (l:List ByteArray) (acc:List D_),∀ x,x∈(pmGo b l acc).2.1->x.text.size<=60
 | [],acc,x,h=>by cases h
 | w::l,acc,x,h=>by
  rw[pmGo] at h;split at h
  ·split at h
   ·exact AaM b l _ x h
   ·cases h
  ·split at h
   ·exact Pw _ x h
   ·cases h
def Aa3 {p q:C_} {Q M R:Nat} (h:okAll q Q M R) (he:q.bh=p.bh) (b:D_) (hb:0<=findMod p.bh b):okAll (enter1 p q b) Q M R/\(enter1 p q b).bh=p.bh:=by
 unfold enter1;split
 ·exact⟨h,he⟩
 ·rename_i hn;have hn:inL q.ran b=false:=by simpa using hn
  obtain⟨h1,h2,h3,⟨h4,h7,h8,h9⟩,h5,h6⟩:=h;have hf:=BJ p.bh b;have hd:=V8 q.ran b hn p.bh _ (show(findMod p.bh b).toNat<p.bh.length from o_) (Kw hb);have h0:szL szAddr []=0:=rfl;refine⟨⟨h1,On _ _ _ _ _ h2,h3,⟨h4,h7,?_,h9⟩,OM _ _ (NF _ (Gn _).2 _ _ _ _ h2 (AaM _ _ _) λs hs=>by cases hs) h5,h6⟩,he⟩;unfold ranP at *
  dsimp only;rw[he] at h8 ⊢;rw[Cr,Ag,h0];omega
def O0 {p:C_} {Q M R:Nat}:∀ (l:List D_) (q:C_),okAll q Q M R->q.bh=p.bh->(∀ b,b∈l->0<=findMod p.bh b)->okAll (enterAll p q l) Q M R
 | [],q,h,_,_=>h
 | b::l,q,h,he,hb=>by obtain⟨i1,i2⟩:=Aa3 h he b (hb b cZ);exact O0 l _ i1 i2 λx hx=>hb x (cJ _ hx)
def UI (a:D_):(formatAddr a).size<=17:=by
 unfold formatAddr;split
 ·rename_i h;rw[Z_] at h;have h1:=Bx h.1;have h2:=Bx h.2;rw[aQ,aQ,show ByteArray.size ⟨#[47]⟩=1 from rfl];omega
 ·exact Nat.zero_le _
def Ad3 {p:C_} {Q M R:Nat} (h:okAll p Q M R) (a:D_):okAll (enter p a) Q M R:=by
 unfold enter;split
 ·refine ZX h ?_;have:=UI a;rw[aQ,show ByteArray.size ⟨#[102,97,105,108,32]⟩=5 from rfl];omega
 ·rename_i hf;exact O0 _ _ h rfl λb hb=>Mi (by simpa using hf) hb
def Af5 {p:C_} {Q M R:Nat} (h:okAll p Q M R):okAll (stepTail p).1 (Q+370) M R:=by
 have hm:=Gw h (cw Q 370);unfold stepTail;split
 ·exact hm
 ·split
  ·unfold tailDefer;split
   ·exact hm
   ·split
    ·exact Abs h _ _
    ·exact hm
  ·split
   ·unfold tailEnter;split
    ·exact hm
    ·exact Ad3 hm _
   ·split
    ·exact hm
    ·exact ZX hm (by decide)
def Pv {p:C_} {Q M R:Nat} (h:okAll p Q M R) (hQ:Q<=900000000000) (hM:M<=50000000000) (hR:R<=20000000000):okTail p:=by
 obtain⟨⟨a1,a2⟩,⟨b1,b2⟩,⟨c1,c2⟩,⟨d1,d2,d3,d4⟩,e1,f1⟩:=h;have hg:logP p.log<=3000000:=e1;have hc:AQ p.bj+szAddr p.addr+p.tok.rest.size<=9000000:=by(unfold okCm at f1;omega)
 unfold nodeP at b1;unfold openP at b2;unfold slotP at c1;unfold entP at d1;unfold modP at d2;unfold ranP at d3;unfold logP at hg;have hn:=Ac AM p.ba.bi;have hb:szBuilder p.ba=szL AM p.ba.bi+p.ba.bl.length:=rfl;have hh:p.addr.host.size<=szAddr p.addr:=by simp only[szAddr];omega
 refine⟨⟨⟨?_,o_,λi hi=>?_,o_,o_⟩,o_,λi hi=>?_⟩,λi hi=>?_,o_,λi hi=>?_⟩
 ·simp only[Aj,Gp];omega
 ·have:=a1 _ (AH hi);omega
 ·have:=c2 _ (AH hi);omega
 ·have:=d4 _ (AH hi);omega
 ·have:=C6 szAddr hi;have h3:(p.bg.getD i default).host.size<=szAddr (p.bg.getD i default):=by simp only[szAddr];omega
  omega
def step1 (p:C_):C_×Bool:=if(stepParser p).2=true then stepParser p else stepTail p
def adv:Nat->C_->C_
 | 0,p=>p
 | n+1,p=>if(step1 p).2=true then adv n (step1 p).1 else p
def advance (p:C_):C_:=adv 2000 p
def RJ {p:C_} (h:(stepParser p).2=true):step1 p=stepParser p:=by unfold step1;rw[I_ h]
def Mu {p:C_} (h:(stepParser p).2=false):step1 p=stepTail p:=by unfold step1;rw[J_ (by rw[h];decide)]
def V3 {p:C_} {Q M R:Nat} (h:okAll p Q M R):okAll (step1 p).1 (Q+370) M R:=by
 unfold step1;split
 ·exact AaZ h
 ·exact Af5 h
def Ae9 {M R:Nat}:∀ (n:Nat) (p:C_) (Q:Nat),okAll p Q M R->okAll (adv n p) (Q+370*n) M R
 | 0,p,Q,h=>h
 | n+1,p,Q,h=>by
  rw[adv];split
  ·have:=Ae9 n _ _ (V3 h);rw[show Q+370+370*n=Q+370*(n+1) from o_] at this;exact this
  ·exact Gw h o_
def Qr {p:C_} {Q M R:Nat} (h:okAll p Q M R):okAll (advance p) (Q+740000) M R:=Ae9 2000 p Q h
def okAdv (p:C_):Prop:=∃ Q M R,okAll p Q M R/\Q<=899000000000/\M<=50000000000/\R<=20000000000
def advInv (p q:C_) (i:Int):Prop:=0<=i/\i<=2000/\adv (2000-i.toNat) q=advance p/\∃ Q M R,okAll q (Q+370*i.toNat) M R/\Q<=899000000000/\M<=50000000000/\R<=20000000000
def J2 {p:C_} (h:okAdv p):advInv p p 0:=by
 obtain⟨Q,M,R,h1,h2⟩:=h;exact⟨o_,o_,rfl,Q,M,R,h1,h2⟩
def I8 {p q:C_} {i:Int} (h:advInv p q i):okTail q:=by
 obtain⟨h1,h2,_,Q,M,R,h3,h4,h5,h6⟩:=h;exact Pv h3 o_ h5 h6
def Ln {p q:C_} {i:Int} (h:advInv p q i) (hi:i<2000) (hs:(step1 q).2=true):advInv p (step1 q).1 (i+1):=by
 obtain⟨h1,h2,h0,Q,M,R,h3,h4⟩:=h;rw[show 2000-i.toNat=(2000-(i+1).toNat)+1 from o_,adv,I_ hs] at h0;refine⟨o_,o_,h0,Q,M,R,?_,h4⟩;have:=V3 h3;rw[show Q+370*i.toNat+370=Q+370*(i+1).toNat from o_] at this;exact this
def IK {p q:C_} {i:Int} (h:advInv p q i) (hs:i<2000->(step1 q).2=false):q=advance p:=by
 obtain⟨h1,h2,h0,_⟩:=h;rcases Nat.eq_zero_or_pos (2000-i.toNat) with hz|hz
 ·rw[hz] at h0;exact h0
 ·obtain⟨n,hn⟩:∃ n,2000-i.toNat=n+1:=⟨2000-i.toNat-1,o_⟩;rw[hn,adv,J_ (by rw[hs o_];decide)] at h0;exact h0
abbrev Ej:Fct:=⟨[.v (.el .page)],[.el .page],λ(x:ak)=>okAdv x.1,λ(x:ak)=>(advance x.1,())⟩
abbrev EO (p:C_):LInv:=⟨[⟨.b,3,true,.el .page⟩,⟨.s,4,true,.el .int⟩,⟨.b,2,true,.el .page⟩],λ(z x:cm)=>(advInv p x.1 x.2.1)/\x.2.2.1=z.2.2.1,λ(x:cm)=>(2000-x.2.1).toNat⟩
end Go.Proofs.YthpiiodbmkjmjaaGreatDoor.fnThrifty
