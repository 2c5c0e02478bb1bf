/-
  Contracts of functions that the law of FnOthersLearn reaches, part 2.
-/
import Derived.Test.YtfklkhgmgglloaaGreatVPOthersLearn1
namespace Go.Proofs.YtfklkhgmgglloaaGreat.fnOthersLearn
open Go.Proofs.YtfklkhgmgglloaaGreat
open Go.D Go.Proofs.Tryz
set_option maxRecDepth 100000
set_option maxHeartbeats 2000000
set_option linter.defProp false
set_option linter.unusedVariables false
set_option linter.unusedSimpArgs false
def Ami:=AmR.a AM<|Fct.p (KP [0,1,4,5,6] [10,19]) (λ⟨l,n,_⟩=>lv [(2,Bv l n)]) AmR.2 func151 (by
 rintro⟨(l:List cU),(n:ByteArray),_⟩ hp;exact hg (.lq (Int×PUnit) (Bv l n).inv (Bv l n).m ((0:Int),()) λy1 bk1=>.br (decide (y1.1<(l.length:Int))) (.ob (inB y1.1 l.length)<|.br ((l.getD y1.1.toNat default).name.toList==n.toList) (.ob (inB y1.1 l.length)<|.lf AM ((l.getD y1.1.toNat default).value,true,())) (.re (l)<|.re (Value.string n)<|.bk (bk1 (w1 y1.1,())))) (.lf AM ((⟨#[]⟩:ByteArray),false,()))) (@findAttr.eq_1))
def scanKind (t:af):Int:=if t.kind≠1 then 0 else if t.name=⟨#[115,99,114,105,112,116]⟩ then(if(findAttr t.bq ⟨#[107,105,110,100]⟩).getD ⟨#[]⟩=⟨#[109,111,100,117,108,101]⟩ then 5 else 2) else if t.name=⟨#[108,105,110,107]⟩ then 3 else if t.name=⟨#[105,109,103]⟩ then 4 else 0
def scanTo (t:af):ByteArray:=if t.name=⟨#[108,105,110,107]⟩ then(findAttr t.bq ⟨#[104,114,101,102]⟩).getD ⟨#[]⟩ else(findAttr t.bq ⟨#[115,114,99]⟩).getD ⟨#[]⟩
def scanToken (t:af) (b:ByteArray):ay×Bool:=if scanKind t≠0/\(parseAddr (scanTo t) b).2=true then(⟨scanKind t,(parseAddr (scanTo t) b).1,b,if scanKind t=5 then⟨#[]⟩ else(findAttr t.bq ⟨#[100,105,103,101,115,116]⟩).getD ⟨#[]⟩⟩,true) else(default,false)
def Bk (l:List cU) (n:ByteArray):((findAttr l n).getD ⟨#[]⟩).size<=szL BH l:=by
 unfold findAttr;cases h:l.find? λa=>decide (a.name=n) with
 | none=>exact Nat.zero_le _
 | some a=>
  obtain⟨i,hi,he⟩:=List.mem_iff_getElem.1 (List.mem_of_find?_eq_some h);have:=Ct BH (l:=l) (i:=i) hi;rw[aV,aG hi,he] at this;simp only[aY,Option.getD_some,BH] at *;omega
def Tf {l:List cU} {n:ByteArray} (h:(findAttr l n).isSome=false):(findAttr l n).getD ⟨#[]⟩=⟨#[]⟩:=by
 simp_all
abbrev BU:Fct:=⟨[.v (.el .token),.v (.el .str)],[.el .request,.el .bool],λ(x:gK)=>szToken x.1<=100000000/\x.2.1.size<=100000000,λ(x:gK)=>((scanToken x.1 x.2.1).1,(scanToken x.1 x.2.1).2,())⟩
def Amk:=Ami.a BU<|Fct.o (KP [1,2,4,5,6,7,8,10,12,13] [17,22,34,36,41,60,66]) Ami.2 func222 (by
 rintro⟨(t:af),(b:ByteArray),_⟩ hp;refine ho (let R_:=(⟨#[]⟩:ByteArray);let M_:=(⟨#[115,114,99]⟩:ByteArray);let J_:=(⟨#[100,105,103,101,115,116]⟩:ByteArray);let H_:Out:=.lf BU (default,false,());.br (t.kind != 1) H_ (.br (t.name.toList==(⟨#[115,99,114,105,112,116]⟩:ByteArray).toList) (.cl AM (t.bq,(⟨#[107,105,110,100]⟩:ByteArray),()) λz2=>.br (z2.1.toList==(⟨#[109,111,100,117,108,101]⟩:ByteArray).toList) (.cl AM (t.bq,M_,()) λz3=>.cl BE (z3.1,b,()) λz4=>.br (!z4.2.1) H_ (.br ((5:Int) != (5:Int)) (.cl AM (t.bq,J_,()) λz5=>.lf BU (⟨(5:Int),z4.1,b,z5.1⟩,true,())) (.lf BU (⟨(5:Int),z4.1,b,R_⟩,true,())))) (.cl AM (t.bq,M_,()) λz6=>.cl BE (z6.1,b,()) λz7=>.br (!z7.2.1) H_ (.br ((2:Int) != (5:Int)) (.cl AM (t.bq,J_,()) λz8=>.lf BU (⟨(2:Int),z7.1,b,z8.1⟩,true,())) (.lf BU (⟨(2:Int),z7.1,b,R_⟩,true,()))))) (.br (t.name.toList==(⟨#[108,105,110,107]⟩:ByteArray).toList) (.cl AM (t.bq,(⟨#[104,114,101,102]⟩:ByteArray),()) λz9=>.cl BE (z9.1,b,()) λz10=>.br (!z10.2.1) H_ (.br ((3:Int) != (5:Int)) (.cl AM (t.bq,J_,()) λz11=>.lf BU (⟨(3:Int),z10.1,b,z11.1⟩,true,())) (.lf BU (⟨(3:Int),z10.1,b,R_⟩,true,())))) (.br (t.name.toList==(⟨#[105,109,103]⟩:ByteArray).toList) (.cl AM (t.bq,M_,()) λz12=>.cl BE (z12.1,b,()) λz13=>.br (!z13.2.1) H_ (.br ((4:Int) != (5:Int)) (.cl AM (t.bq,J_,()) λz14=>.lf BU (⟨(4:Int),z13.1,b,z14.1⟩,true,())) (.lf BU (⟨(4:Int),z13.1,b,R_⟩,true,())))) H_)))) ?_;refine Aa (λh1=>lfY ?_) λh1=>Aa (λh2=>Cu ?_ λo3 z2 ez2=>Aa (λh4=>Cu ?_ λo5 z3 ez3=>Cu ?_ λo6 z4 ez4=>Aa (λh7=>lfY ?_) λh7=>Aa (λh8=>Cu ?_ λo9 z5 ez5=>lfY ?_) λh8=>lfY ?_) λh4=>Cu ?_ λo10 z6 ez6=>Cu ?_ λo11 z7 ez7=>Aa (λh12=>lfY ?_) λh12=>Aa (λh13=>Cu ?_ λo14 z8 ez8=>lfY ?_) λh13=>lfY ?_) λh2=>Aa (λh15=>Cu ?_ λo16 z9 ez9=>Cu ?_ λo17 z10 ez10=>Aa (λh18=>lfY ?_) λh18=>Aa (λh19=>Cu ?_ λo20 z11 ez11=>lfY ?_) λh19=>lfY ?_) λh15=>Aa (λh21=>Cu ?_ λo22 z12 ez12=>Cu ?_ λo23 z13 ez13=>Aa (λh24=>lfY ?_) λh24=>Aa (λh25=>Cu ?_ λo26 z14 ez14=>lfY ?_) λh25=>lfY ?_) λh21=>lfY ?_;all_goals subst_vars
 all_goals
  have hl:=Ad BH t.bq;have hs:=Bk t.bq;have hn:=λn=>Tf (l:=t.bq) (n:=n)
  have hp0:=Ph b;try simp only[AA] at *
  try simp only[std,Nat.reduceAdd,scanToken,scanKind,scanTo,szToken] at *
  try simp(disch:=omega) only[A_,C_] at *
  try simp(disch:=omega) only[G_,F_]
 all_goals first|trivial|omega|grind[A_,C_,B_,K_,I_,maxLen,scanToken,scanKind,scanTo,szToken])
def scanTokens (b:ByteArray):List af->List ay
 | []=>[]
 | t::l=>if(scanToken t b).2 then(scanToken t b).1::scanTokens b l else scanTokens b l
def Rb {b:ByteArray} {l:List af} {i:Nat} (h:i<l.length):scanTokens b (l.drop i)=if(scanToken (l.getD i default) b).2 then(scanToken (l.getD i default) b).1::scanTokens b (l.drop (i+1)) else scanTokens b (l.drop (i+1)):=by rw[B_ h];rfl
def N0 {b:ByteArray} {l:List af} {i:Nat} (h:l.length<=i):scanTokens b (l.drop i)=[]:=by rw[bQ h];rfl
def F5 (b:ByteArray):∀ l:List af,(scanTokens b l).length<=l.length
 | []=>Y_ _
 | t::l=>by have:=F5 b l;simp only[scanTokens];split<;>simp only[aq]<;>omega
abbrev I2:Fct:=⟨[.v (.sl .token),.v (.el .str)],[.sl .request],λ(x:gL)=>szL szToken x.1<=1000000000000/\(∀ t,t∈x.1->szToken t<=10000000)/\x.2.1.size<=10000000,λ(x:gL)=>(scanTokens x.2.1 x.1,())⟩
abbrev A4 (l:(List af)) (b:ByteArray):LInv:=⟨[⟨.s,5,true,.sl .request⟩,⟨.s,6,true,.el .int⟩],λ_ (x:eJ)=>0<=x.2.1/\x.2.1<=l.length/\x.1.length<=x.2.1/\x.1++scanTokens b (l.drop x.2.1.toNat)=scanTokens b l,λ(x:eJ)=>l.length-x.2.1.toNat⟩
def AmM:=Amk.a I2<|Fct.p (KP [0,1,4,5,6,7,8] [13,25]) (λ⟨l,b,_⟩=>lv [(3,A4 l b)]) Amk.2 func208 (by
 rintro⟨(l:List af),(b:ByteArray),_⟩ hp;exact hg (.lq (List ay×Int×PUnit) (A4 l b).inv (A4 l b).m ([],((0:Int),())) λy1 bk1=>.br (decide (y1.2.1<(l.length:Int))) (.ob (inB y1.2.1 l.length)<|.cl BU (l.getD y1.2.1.toNat default,b,()) λz2=>.br (z2.2.1) (.ap (y1.1.length+[z2.1].length) 72<|.re (l)<|.re (Value.string b)<|.bk (bk1 (y1.1++[z2.1],(w1 y1.2.1,())))) (.re (l)<|.re (Value.string b)<|.bk (bk1 (y1.1,(w1 y1.2.1,()))))) (.lf I2 (y1.1,()))) (an_ @Rb<|an_ @N0<|an_ @bF.{0}<|an_ @List.singleton_append.{0}<|an_ @ak.{0}<|an_ @dY.{0}<|an_ (Ad szToken l)<|(λi h=>hp.2.1 _ (Ae h):∀ i,i<l.length->szToken (l.getD i default)<=10000000)))
def canGuess (r:ay):Bool:=isRequest r&&(decide (r.kind≠1)&&decide (r.to.host=r.from_))
abbrev H4:Fct:=⟨[.v (.el .request)],[.el .bool],λ(x:fe)=>Bx x.1<=1099511627776,λ(x:fe)=>(canGuess x.1,())⟩
def Am7:=AmM.a H4<|Fct.o [1,2] AmM.2 func209 (by
 rintro⟨(r:ay),_⟩ hp;exact hg (.cl Dq (r,()) λz2=>.br (z2.1) (.br (r.kind != 1) (.lf H4 (r.to.host.toList==r.from_.toList,())) (.lf H4 (false,()))) (.lf H4 (false,()))) (@canGuess.eq_1))
def guessOk (p:HO) (out:List FS) (r:ay):Bool:=canGuess r&&(decide (checkRequest p.bm r=1)&&(!isAsked p r.to && !out.any λc=>decide (c=r.to)))
def guessL (p:HO):List ay->List FS->List FS
 | [],out=>out
 | r::l,out=>if guessOk p out r then guessL p l (out++[r.to]) else guessL p l out
def AaN {p:HO} {l:List ay} {i:Nat} {out:List FS} (h:i<l.length):guessL p (l.drop i) out=if guessOk p out (l.getD i default) then guessL p (l.drop (i+1)) (out++[(l.getD i default).to]) else guessL p (l.drop (i+1)) out:=by rw[B_ h];rfl
def Yf {p:HO} {l:List ay} {i:Nat} {out:List FS} (h:l.length<=i):guessL p (l.drop i) out=out:=by rw[bQ h];rfl
def guessesOf (p:HO):List FS:=guessL p (scanTokens p.addr.host p.bp) []
def KY {p:HO}:∀ {l:List ay} {out:List FS},(∀ a∈out,isName a.host=true/\isName a.path=true)->∀ a∈guessL p l out,isName a.host=true/\isName a.path=true
 | [],out,h=>h
 | r::l,out,h=>by
  rw[guessL];split
  ·rename_i hg;refine KY λa ha=>?_
   rcases ae.1 ha with ha|ha
   ·exact h a ha
   ·simp only[List.mem_singleton] at ha;subst ha;simp only[guessOk,canGuess,isRequest,S_] at hg;simp_all
  ·exact KY h
def Aaj (t:af):(scanTo t).size<=szToken t:=by
 unfold scanTo;have h1:=Bk t.bq ⟨#[104,114,101,102]⟩;have h2:=Bk t.bq ⟨#[115,114,99]⟩;have h3:szL BH t.bq<=szToken t:=by simp only[szToken];omega
 split<;>omega
def RL (t:af) (b:ByteArray):Bx (scanToken t b).1<=3*szToken t+2*b.size:=by
 unfold scanToken;split
 ·have h1:=ML (scanTo t) b;have h2:=Aaj t;have h3:=Bk t.bq ⟨#[100,105,103,101,115,116]⟩;have h4:szL BH t.bq<=szToken t:=by simp only[szToken];omega
  have h5:szAddr (parseAddr (scanTo t) b).1<=2*szToken t+b.size:=by
   unfold parseAddr;split
   ·simp only[szAddr];omega
   ·exact Nat.zero_le _
  have h6:ByteArray.size ⟨#[]⟩=0:=rfl;simp only[Bx];split<;>omega
 ·exact Nat.zero_le _
def IL (b:ByteArray) {B:Nat}:∀ {l:List af},(∀ t,t∈l->szToken t<=B)->∀ r∈scanTokens b l,Bx r<=3*B+2*b.size
 | [],_,r,hr=>by cases hr
 | t::l,h,r,hr=>by
  have ih:=IL b (l:=l) λx hx=>h x (cT _ hx)
  have h1:=RL t b;have h2:=h t cW;simp only[scanTokens] at hr;grind
abbrev Kz:Fct:=⟨[.v (.el .page)],[.sl .addr],λ(x:ai)=>Al x.1<=1000000000000/\(∀ t,t∈x.1.bp->szToken t<=10000000)/\x.1.addr.host.size<=10000000,λ(x:ai)=>(guessesOf x.1,())⟩
abbrev Cj (p:HO):LInv:=⟨[⟨.s,3,true,.sl .addr⟩,⟨.s,5,true,.el .int⟩,⟨.b,1,false,.el .page⟩,⟨.s,4,true,.sl .request⟩],λ(z x:gM)=>((0<=x.2.1/\x.2.1<=(scanTokens p.addr.host p.bp).length/\x.1.length<=x.2.1/\guessL p ((scanTokens p.addr.host p.bp).drop x.2.1.toNat) x.1=guessesOf p)/\x.2.2.1=z.2.2.1)/\x.2.2.2.1=z.2.2.2.1,λ(x:gM)=>(scanTokens p.addr.host p.bp).length-x.2.1.toNat⟩
def AmF:=Am7.a Kz<|Fct.p (KP [1,2,3,4,5,6] [17,51]) (λ⟨p,_⟩=>lv [(4,Cj p)]) Am7.2 func179 (by
 rintro⟨(p:HO),_⟩ hp;exact hg (let M_:=Cj p;.cl I2 (p.bp,p.addr.host,()) λz2=>.lq (List FS×Int×HO×List ay×PUnit) M_.inv M_.m ([],((0:Int),(p,(z2.1,())))) λy2 bk2=>let J_:=y2.2.2.2.1.getD y2.2.1.toNat default;let H_:Out:=.bk (bk2 (y2.1,(w1 y2.2.1,(y2.2.2.1,(y2.2.2.2.1,())))));.br (decide (y2.2.1<(y2.2.2.2.1.length:Int))) (.ix y2.2.1 y2.2.2.2.1.length<|.ix y2.2.1 y2.2.2.2.1.length<|.cl H4 (y2.2.2.2.1.getD y2.2.1.toNat default,()) λz3=>.br (z3.1) (.ix y2.2.1 y2.2.2.2.1.length<|.cl Bs (y2.2.2.1.bm,y2.2.2.2.1.getD y2.2.1.toNat default,()) λ(z4:E_)=>.br (z4.1==1) (.cl LO (y2.2.2.1,J_.to,()) λz5=>.br (!z5.1) (.cl DC (y2.1,J_.to,()) λz6=>.br (!z6.1) (.ap (y2.1.length+[J_.to].length) 32<|.bk (bk2 (y2.1++[J_.to],(w1 y2.2.1,(y2.2.2.1,(y2.2.2.2.1,())))))) H_) H_) H_) H_) (.lf Kz (y2.1,()))) (an_ @AaN<|an_ @Yf<|an_ @guessOk.eq_1<|an_ @guessesOf.eq_1<|an_ @ak.{0}<|an_ @dY.{0}<|an_ (by simp only[Al,szAddr];omega:szL szToken p.bp<=Al p/\szL AO p.bf<=Al p/\szL Ar p.bi<=Al p/\p.addr.host.size<=Al p/\AD p.bm<=Al p)<|an_ (Ad szToken p.bp)<|an_ (Ad AO p.bf)<|an_ (Ad Ar p.bi)<|an_ (F5 p.addr.host p.bp)<|(λi h=>by have hq:∀ t,t∈p.bp->szToken t<=10000000:=hp.2.1;have:=IL p.addr.host hq _ (Ae (i:=i) h);have hp2:p.addr.host.size<=10000000:=hp.2.2;omega:∀ i,i<(scanTokens p.addr.host p.bp).length->Bx ((scanTokens p.addr.host p.bp).getD i default)<=100000000)))
abbrev CJ:Fct:=⟨[.v (.el .loader)],[.el .loader],λ(x:ct)=>szNet x.1.net<=68719476736/\Al x.1.page<=1099511627776/\x.1.parts.length<=1000000000/\x.1.conns.length<=1048576/\x.1.guesses.length<=4194304,λ(x:ct)=>(x.1,())⟩
def Amu:=AmF.a CJ<|Fct.o [1,2] AmF.2 func51 (by
 rintro⟨(l:O_),_⟩ hp;exact hq (.cl JF (l.net,()) λz2=>.cl AW (l.page,()) λz3=>.ap l.parts.length 16<|.ap l.conns.length 112<|.ap l.guesses.length 104<|.lf CJ (⟨z2.1,z3.1,l.parts,l.conns,l.guesses⟩,())))
def nextGuess (l:O_):List FS->O_×Bool
 | []=>(l,false)
 | a::r=>if 0<=findGuess l.guesses a\/0<=findConn a l.conns 0 then nextGuess l r else(⟨(fetchNow l.net l.page.addr.host a true).1,l.page,l.parts,(openConn l.conns a (fetchNow l.net l.page.addr.host a true).2 true).1,l.guesses⟩,true)
theorem cH {l:O_} {m:List FS} {i:Nat} (h:i<m.length):nextGuess l (m.drop i)=if 0<=findGuess l.guesses (m.getD i default)\/0<=findConn (m.getD i default) l.conns 0 then nextGuess l (m.drop (i+1)) else(⟨(fetchNow l.net l.page.addr.host (m.getD i default) true).1,l.page,l.parts,(openConn l.conns (m.getD i default) (fetchNow l.net l.page.addr.host (m.getD i default) true).2 true).1,l.guesses⟩,true):=by rw[B_ h];rfl
theorem cx {l:O_} {m:List FS} {i:Nat} (h:m.length<=i):nextGuess l (m.drop i)=(l,false):=by rw[bQ h];rfl
def guessNext (l:O_):O_×Bool:=if 3<=l.conns.length\/6<=(BB (λg:aZ=>!g.used) l.guesses:Int)+(countGuess l.conns:Int) then(l,false) else nextGuess l (guessesOf l.page)
def Lk {p:HO} {i:Nat} (h:i<(guessesOf p).length):szAddr ((guessesOf p).getD i default)<=16:=by
 have:=KY (p:=p) (l:=scanTokens p.addr.host p.bp) (out:=[]) (by simp) _ (Ae (i:=i) h);have h1:=AX this.1;have h2:=AX this.2;simp only[szAddr];simp only[guessesOf];omega
def KR {p:HO}:∀ {l:List ay} {out:List FS},(guessL p l out).length<=out.length+l.length
 | [],out=>Y_ _
 | r::l,out=>by
  rw[guessL];split
  ·have:=KR (p:=p) (l:=l) (out:=out++[r.to]);simp only[ak,aq,aU] at *;omega
  ·have:=KR (p:=p) (l:=l) (out:=out);simp only[aq];omega
def Qn (p:HO):(guessesOf p).length<=Al p:=by
 have h1:=KR (p:=p) (l:=scanTokens p.addr.host p.bp) (out:=[]);have h2:=F5 p.addr.host p.bp;have h3:=Ad szToken p.bp;simp only[guessesOf,Al,aU] at *;omega
def okNt (n:N_):Prop:=szNet n<=8000000000/\szCache n.cache<=80000000/\szL Af n.servers<=1048576/\∀ e,e∈n.cache.bh->Ab e.bd<=1048576
def XK {c:bD} {t:ByteArray} {a:FS} {n:Int} {x:L_} (h:lookUp c t a n=some x) (B:Nat) (hc:∀ e,e∈c.bh->Ab e.bd<=B):Ab x<=B:=by
 unfold lookUp at h;obtain⟨e,he,rfl⟩:=Option.map_eq_some_iff.1 h;grind
def Gy {n:N_} {t:ByteArray} {a:FS} {g:Bool} (h:okNt n):Ab (fetchNow n t a g).2<=1048576:=by
 obtain⟨h1,h2,h3,h4⟩:=h;unfold fetchNow;split
 ·exact(show Ab notFound<=1048576 by decide)
 ·split
  ·cases hq:lookUp n.cache t a n.now with
   | none=>exact(show Ab notFound<=1048576 by decide)
   | some x=>exact XK hq _ h4
  ·exact aR (M5 _ _) h3
def okGN (l:O_):Prop:=okNt l.net/\(Al l.page<=1000000000000/\(∀ t,t∈l.page.bp->szToken t<=10000000)/\l.page.addr.host.size<=10000000)/\l.parts.length<=1000000000/\l.conns.length<=1048576/\l.guesses.length<=4194304
abbrev Ff:Fct:=⟨[.v (.el .loader)],[.el .loader,.el .bool],λ(x:ct)=>okGN x.1,λ(x:ct)=>((guessNext x.1).1,(guessNext x.1).2,())⟩
abbrev Bf (l:O_):LInv:=⟨[⟨.s,6,true,.el .int⟩,⟨.b,1,false,.el .loader⟩,⟨.b,2,true,.el .loader⟩,⟨.b,4,true,.el .loader⟩,⟨.s,5,true,.sl .addr⟩],λ(z x:fp)=>((((0<=x.1/\x.1<=(guessesOf l.page).length/\nextGuess l ((guessesOf l.page).drop x.1.toNat)=nextGuess l (guessesOf l.page))/\x.2.1=z.2.1)/\x.2.2.1=z.2.2.1)/\x.2.2.2.1=z.2.2.2.1)/\x.2.2.2.2.1=z.2.2.2.2.1,λ(x:fp)=>(guessesOf l.page).length-x.1.toNat⟩
def AnL:=Amu.a Ff<|Fct.p (KP [1,2,3,4,5,6,7,8,9] [25,33,51]) (λ⟨l,_⟩=>lv [(6,Bf l)]) Amu.2 func134 (by
 rintro⟨(l:O_),_⟩ hp;refine ho (.cl CJ (l,()) λz2=>.br (decide ((l.conns.length:Int)>=3)) (.lf Ff (z2.1,false,())) (.cl Rh (l.guesses,()) λ(z3:E_)=>.cl AbI (l.conns,()) λ(z4:E_)=>.br (decide (wr (z3.1+z4.1)>=6)) (.lf Ff (z2.1,false,())) (.cl Kz (l.page,()) λz5=>lpx (Bf l) ((0:Int),(l,(default,(z2.1,(z5.1,()))))) λ(y7:fp) bk7=>.br (decide (y7.1<(y7.2.2.2.2.1.length:Int))) (.ix y7.1 y7.2.2.2.2.1.length<|.cl Fb (y7.2.1.guesses,y7.2.2.2.2.1.getD y7.1.toNat default,()) λ(z6:E_)=>.br (decide (z6.1>=0)) (.bk (bk7 (w1 y7.1,(y7.2.1,(y7.2.2.1,(y7.2.2.2.1,(y7.2.2.2.2.1,()))))))) (.cl Ade (y7.2.1.conns,y7.2.2.2.2.1.getD y7.1.toNat default,()) λ(z7:E_)=>.br (decide (z7.1>=0)) (.bk (bk7 (w1 y7.1,(y7.2.1,(y7.2.2.1,(y7.2.2.2.1,(y7.2.2.2.2.1,()))))))) (.cl Bw (y7.2.1.net,y7.2.1.page.addr.host,y7.2.2.2.2.1.getD y7.1.toNat default,true,()) λz8=>.cl Yy (y7.2.1.conns,y7.2.2.2.2.1.getD y7.1.toNat default,z8.2.1,true,()) λz9=>.lf Ff (⟨z8.1,y7.2.2.2.1.page,y7.2.2.2.1.parts,z9.1,y7.2.2.2.1.guesses⟩,true,())))) (.lf Ff (y7.2.2.2.1,false,()))))) ?_;repeat' (guard_target =~ Out.holds _ _;first|refine Aq (li:=Bf l) ?_ λ(y7:fp) i7=>?_|refine lfY ?_|refine Aa (λ_=>?_) λ_=>?_|refine Aj ?_ λ_=>?_|refine AR ?_|refine CW ?_ λ_ _=>?_)
 all_goals obtain⟨z0,⟨z4,z5,z6⟩,z7,z8,z9⟩:=(show okGN l from hp)<;>have hf:=λa=>Gy (t:=l.page.addr.host) (a:=a) (g:=true) z0<;>obtain⟨z1,z2,z3,_⟩:=z0<;>have hb2:∀ x:L_,x.body.size<=Ab x:=λx=>cO _ _<;>have hn:=λ{i:Nat} (h:i<(guessesOf l.page).length)=>Lk (p:=l.page) h<;>(have hc:=IB (λg:aZ=>!g.used) l.guesses;have hc2:=Pq l.conns;have hgl:=Qn l.page)<;>(try obtain⟨⟨⟨⟨⟨a1,a2,a3⟩,a4⟩,a5⟩,a6⟩,a7⟩:=i7;simp only[a4,a5,a6,a7] at *)<;>(try simp only[AA] at *)<;>(try simp only[std,Nat.reduceAdd,guessNext,cH,cx] at *)<;>(try simp(disch:=omega) only[A_,C_] at *)<;>(try simp(disch:=omega) only[G_,F_])<;>(first|trivial|omega|grind[A_,C_,I_,maxLen,guessNext,cH,cx]))
def tagAttrs:List ByteArray->List cU->Option (List cU)
 | [],acc=>some acc
 | w::l,acc=>match Ge 61 (toL w) with
  | none=>none
  | some r=>if isName (ofL r.1)&&(isValue (ofL r.2)&&(findAttr acc (ofL r.1)).isNone) then tagAttrs l (acc++[⟨ofL r.1,ofL r.2⟩]) else none
def tagFin (n:ByteArray):Option (List cU)->af×Bool
 | none=>(default,false)
 | some ats=>if isName n=true/\ats.length<=4 then(⟨1,n,ats,⟨#[]⟩⟩,true) else(default,false)
def tagOf (s:ByteArray):af×Bool :=
 if 60<s.size then(default,false)
 else if 0<s.size/\s.data.getD 0 0=47 then(if isName (s.extract 1 s.size) then(⟨2,s.extract 1 s.size,[],⟨#[]⟩⟩,true) else(default,false))
 else tagFin ((spl 32 s).getD 0 default) (tagAttrs ((spl 32 s).drop 1) [])
def AfB {s:ByteArray} (h:s.size<=60) (hn:¬ (0<s.size/\s.data.getD 0 0=47)) (ha:tagAttrs ((spl 32 s).drop 1) []=none):tagOf s=(default,false):=by
 unfold tagOf;rw[F_ o_,F_ hn,ha];rfl
def WD {s:ByteArray} {ats:List cU} (h:s.size<=60) (hn:¬ (0<s.size/\s.data.getD 0 0=47)) (ha:tagAttrs ((spl 32 s).drop 1) []=some ats):tagOf s=if isName ((spl 32 s).getD 0 default)=true/\ats.length<=4 then(⟨1,(spl 32 s).getD 0 default,ats,⟨#[]⟩⟩,true) else(default,false):=by
 unfold tagOf;rw[F_ o_,F_ hn,ha];rfl
def M2 {s:ByteArray}:(60<s.size->tagOf s=(default,false))/\(s.size<=60->0<s.size->s.data.getD 0 0=47->tagOf s=if isName (s.extract 1 s.size) then(⟨2,s.extract 1 s.size,[],⟨#[]⟩⟩,true) else(default,false)):=by
 unfold tagOf;grind
def VY (b:UInt8):∀ l:List UInt8,LX b l=match Ge b l with|none=>[l]|some (p,q)=>p::LX b q:=by
 intro l
 induction l with
 | nil=>rfl
 | cons x l ih=>
  rw[EE,Ge];by_cases hx:x=b
  ·simp_all
  ·rw[F_ hx,F_ hx,ih];cases Ge b l with
   | none=>rfl
   | some r=>rfl
def FG (b:UInt8) (s:ByteArray):spl b s=match Ge b (toL s) with|none=>[s]|some (p,q)=>ofL p::spl b (ofL q):=by
 unfold spl;rw[VY];cases Ge b (toL s) with
 | none=>simp[AH]
 | some r=>simp[BC]
def LS {b:UInt8}:∀ {l p q:List UInt8},Ge b l=some (p,q)->b∈l
 | [],p,q,h=>by cases h
 | x::l,p,q,h=>by
  rw[Ge] at h;split at h
  ·simp_all
  ·obtain⟨r,hr,_⟩:=Option.map_eq_some_iff.1 h;exact cT _ (LS (p:=r.1) (q:=r.2) hr)
def Afa (w:ByteArray):((spl 61 w).length=2/\isName ((spl 61 w).getD 0 default)=true/\isValue ((spl 61 w).getD 1 default)=true)↔∃ r,Ge 61 (toL w)=some r/\isName (ofL r.1)=true/\isValue (ofL r.2)=true/\(spl 61 w).getD 0 default=ofL r.1/\(spl 61 w).getD 1 default=ofL r.2:=by
 rw[FG];cases h:Ge 61 (toL w) with
 | none=>simp
 | some r=>
  obtain⟨p,q⟩:=r;simp only[aq,Q_];constructor
  ·rintro⟨h1,h2,h3⟩;have hq:(spl 61 (ofL q))=[ofL q]:=by
    rw[FG] at h1 ⊢;cases hc:Ge 61 (toL (ofL q)) with
    | none=>rfl
    | some r2=>
     rw[hc] at h1;have:=(Fy 61 (ofL r2.2)).1;simp_all
   simp_all
  ·rintro⟨r,rfl,h2,h3,h4,h5⟩;have hq:(spl 61 (ofL q))=[ofL q]:=by
    rw[FG];cases hc:Ge 61 (toL (ofL q)) with
    | none=>rfl
    | some r2=>exact absurd (LS (p:=r2.1) (q:=r2.2) hc) (VH rfl h3)
   simp_all
def TI {l:List ByteArray} {i:Nat} {acc:List cU} (h:i<l.length):tagAttrs (l.drop i) acc=(match Ge 61 (toL (l.getD i default)) with|none=>none|some r=>if isName (ofL r.1)&&(isValue (ofL r.2)&&(findAttr acc (ofL r.1)).isNone) then tagAttrs (l.drop (i+1)) (acc++[⟨ofL r.1,ofL r.2⟩]) else none):=by rw[B_ h];rfl
def Lm {l:List ByteArray} {i:Nat} {acc:List cU} (h:l.length<=i):tagAttrs (l.drop i) acc=some acc:=by rw[bQ h];rfl
abbrev Ac0:Fct:=⟨[.v (.el .str)],[.el .token,.el .bool],λ(x:D_)=>x.1.size<=100000000,λ(x:D_)=>((tagOf x.1).1,(tagOf x.1).2,())⟩
def AlQ {s:ByteArray} {i:Nat} {b:Nat} (hb:b<=255):((s.data.getD i 0).toNat:Int)=b↔s.data.getD i 0=UInt8.ofNat b:=Qa (b:=b) o_ o_
def ZE {l:List ByteArray} {i:Nat} {acc:List cU} (h:i<l.length):tagAttrs (l.drop i) acc=if(spl 61 (l.getD i default)).length=2/\isName ((spl 61 (l.getD i default)).getD 0 default)=true/\isValue ((spl 61 (l.getD i default)).getD 1 default)=true/\(findAttr acc ((spl 61 (l.getD i default)).getD 0 default)).isSome=false then tagAttrs (l.drop (i+1)) (acc++[⟨(spl 61 (l.getD i default)).getD 0 default,(spl 61 (l.getD i default)).getD 1 default⟩]) else none:=by
 rw[TI h];generalize l.getD i default=w;by_cases hw:(spl 61 w).length=2/\isName ((spl 61 w).getD 0 default)=true/\isValue ((spl 61 w).getD 1 default)=true
 ·obtain⟨r,h1,h2,h3,h4,h5⟩:=(Afa w).1 hw;simp_all
 ·rw[F_ λhh=>hw ⟨hh.1,hh.2.1,hh.2.2.1⟩];cases hc:Ge 61 (toL w) with
  | none=>rfl
  | some r=>
   simp only;rw[F_];intro hh;simp only[S_] at hh;refine hw ?_;have hq:spl 61 (ofL r.2)=[ofL r.2]:=by
    rw[FG];cases hc2:Ge 61 (toL (ofL r.2)) with
    | none=>rfl
    | some r2=>exact absurd (LS (p:=r2.1) (q:=r2.2) hc2) (VH rfl hh.2.1)
   rw[FG,hc];simp_all
abbrev D5 (s:ByteArray):LInv:=⟨[⟨.b,5,true,.el .token⟩,⟨.s,6,true,.el .int⟩,⟨.b,2,true,.el .token⟩,⟨.s,4,true,.sl .str⟩],λ(z x:ei)=>((1<=x.2.1/\x.2.1<=(spl 32 s).length/\x.1.bq.length+1<=x.2.1/\x.1=⟨1,(spl 32 s).getD 0 default,x.1.bq,⟨#[]⟩⟩/\tagAttrs ((spl 32 s).drop x.2.1.toNat) x.1.bq=tagAttrs ((spl 32 s).drop 1) [])/\x.2.2.1=z.2.2.1)/\x.2.2.2.1=z.2.2.2.1,λ(x:ei)=>(spl 32 s).length-x.2.1.toNat⟩
def AmO:=AnL.a Ac0<|Fct.p (KP [0,2,3,4,5,6,7,9] [12,21,25,39,63,74,97]) (λ⟨s,_⟩=>lv [(10,D5 s)]) AnL.2 func115 (by
 rintro⟨(s:ByteArray),_⟩ hp;refine ho (let aK:=(s.size:Int);let ar:=(0:Int)<=(1:Int)/\(1:Int)<=aK;let Z_:=(⟨#[]⟩:ByteArray);let J_:Out:=.leaf (.tup [(true,[vi ((0:Int)),vs (Z_),.nl,vs (Z_)]),(false,[vb (false)])]) [] [];let H_:Out:=.cl Df (s,(32:Int),()) λz3=>.ob ((0:Int)<=(0:Int)/\(0:Int)<(z3.1.length:Int))<|.ob (0<z3.1.length)<|lpx (D5 s) ((⟨(1:Int),z3.1.getD 0 default,[],Z_⟩:af),((1:Int),(default,(z3.1,())))) λ(y12:ei) bk12=>.br (decide (y12.2.1<(y12.2.2.2.1.length:Int))) (.ix y12.2.1 y12.2.2.2.1.length<|.cl Df (y12.2.2.2.1.getD y12.2.1.toNat default,(61:Int),()) λz4=>let cg:=0<z4.1.length;let bK:=(z4.1.length:Int);let ax:=(⟨z4.1.getD 0 default,z4.1.getD 1 default⟩:cU);let R_:=(0:Int)<=(1:Int)/\(1:Int)<bK;let M_:=(0:Int)<=(0:Int)/\(0:Int)<bK;.br (bK != 2) J_ (.ob M_<|.ob cg<|.cl CA (z4.1.getD 0 default,()) λz5=>.br (!z5.1) J_ (.ob R_<|.ob (1<z4.1.length)<|.cl IG (z4.1.getD 1 default,()) λz6=>.br (!z6.1) J_ (.ob M_<|.ob cg<|.cl AM (y12.1.bq,z4.1.getD 0 default,()) λz7=>.br (z7.2.1) J_ (.ob M_<|.ob cg<|.ob R_<|.ob (1<z4.1.length)<|.ap (y12.1.bq.length+[ax].length) 32<|.re (Value.string s)<|.bk (bk12 (({y12.1 with bq:=y12.1.bq++[ax]}:af),(w1 y12.2.1,(y12.2.2.1,(y12.2.2.2.1,())))))))))) (.cl CA (y12.1.name,()) λz8=>.br (!z8.1) J_ (.br (decide ((y12.1.bq.length:Int)>4)) J_ (.lf Ac0 (y12.1,true,()))));.br (decide (aK>60)) J_ (.br (decide (aK>0)) (.ob ((0:Int)<=(0:Int)/\(0:Int)<aK)<|.br ((↑(s.data.getD 0 0).toNat:Int)==47) (.ob ar<|.cl CA (s.extract 1 s.size,()) λz2=>.br (!z2.1) J_ (.ob ar<|.leaf (.tup [(true,[vi ((2:Int)),vs (s.extract 1 s.size),.nl,vs (Z_)]),(false,[vb (true)])]) [] [])) H_) H_)) ?_;refine Aa (λh1=>Fct.leafZ (default,false,()) (by repeat' first|exact rfl|exact trivial|refine And.intro ?_ ?_) ?_) λh1=>Aa (λh2=>Ac ?_ λ_=>Aa (λh4=>Ac ?_ λ_=>Aj ?_ λ_=>Aa (λh7=>Fct.leafZ (default,false,()) (by repeat' first|exact rfl|exact trivial|refine And.intro ?_ ?_) ?_) λh7=>Ac ?_ λ_=>Fct.leafZ (⟨(2:Int),s.extract (1:Nat) s.size,[],{ data := #[]:ByteArray }⟩,true,()) (by repeat' first|exact rfl|exact trivial|refine And.intro ?_ ?_) ?_) λh4=>Aj ?_ λ_=>Ac ?_ λ_=>Ac ?_ λ_=>Aq ?_ λ(y12:ei) i12=>Aa (λh13=>CW ?_ λo14 o15=>Aj ?_ λ_=>Aa (λh17=>Fct.leafZ (default,false,()) (by repeat' first|exact rfl|exact trivial|refine And.intro ?_ ?_) ?_) λh17=>Ac ?_ λ_=>Ac ?_ λ_=>Aj ?_ λ_=>Aa (λh21=>Fct.leafZ (default,false,()) (by repeat' first|exact rfl|exact trivial|refine And.intro ?_ ?_) ?_) λh21=>Ac ?_ λ_=>Ac ?_ λ_=>Aj ?_ λ_=>Aa (λh25=>Fct.leafZ (default,false,()) (by repeat' first|exact rfl|exact trivial|refine And.intro ?_ ?_) ?_) λh25=>Ac ?_ λ_=>Ac ?_ λ_=>Aj ?_ λ_=>Aa (λh29=>Fct.leafZ (default,false,()) (by repeat' first|exact rfl|exact trivial|refine And.intro ?_ ?_) ?_) λh29=>Ac ?_ λ_=>Ac ?_ λ_=>Ac ?_ λ_=>Ac ?_ λ_=>EG ?_ λ_=>An<|AR ?_) λh13=>Aj ?_ λ_=>Aa (λh37=>Fct.leafZ (default,false,()) (by repeat' first|exact rfl|exact trivial|refine And.intro ?_ ?_) ?_) λh37=>Aa (λh38=>Fct.leafZ (default,false,()) (by repeat' first|exact rfl|exact trivial|refine And.intro ?_ ?_) ?_) λh38=>lfY ?_) λh2=>Aj ?_ λ_=>Ac ?_ λ_=>Ac ?_ λ_=>Aq ?_ λ(y42:ei) i42=>Aa (λh43=>CW ?_ λo44 o45=>Aj ?_ λ_=>Aa (λh47=>Fct.leafZ (default,false,()) (by repeat' first|exact rfl|exact trivial|refine And.intro ?_ ?_) ?_) λh47=>Ac ?_ λ_=>Ac ?_ λ_=>Aj ?_ λ_=>Aa (λh51=>Fct.leafZ (default,false,()) (by repeat' first|exact rfl|exact trivial|refine And.intro ?_ ?_) ?_) λh51=>Ac ?_ λ_=>Ac ?_ λ_=>Aj ?_ λ_=>Aa (λh55=>Fct.leafZ (default,false,()) (by repeat' first|exact rfl|exact trivial|refine And.intro ?_ ?_) ?_) λh55=>Ac ?_ λ_=>Ac ?_ λ_=>Aj ?_ λ_=>Aa (λh59=>Fct.leafZ (default,false,()) (by repeat' first|exact rfl|exact trivial|refine And.intro ?_ ?_) ?_) λh59=>Ac ?_ λ_=>Ac ?_ λ_=>Ac ?_ λ_=>Ac ?_ λ_=>EG ?_ λ_=>An<|AR ?_) λh43=>Aj ?_ λ_=>Aa (λh67=>Fct.leafZ (default,false,()) (by repeat' first|exact rfl|exact trivial|refine And.intro ?_ ?_) ?_) λh67=>Aa (λh68=>Fct.leafZ (default,false,()) (by repeat' first|exact rfl|exact trivial|refine And.intro ?_ ?_) ?_) λh68=>lfY ?_;all_goals
  try simp only[AA] at *
  try simp only[std,Nat.reduceAdd] at *
  try simp only[show UInt8.ofNat (Int.toNat 32)=32 from rfl,show UInt8.ofNat (Int.toNat 61)=61 from rfl,AgO] at *
 all_goals (have hk:=Fy 32 s;have hm:∀ i,i<(spl 32 s).length->((spl 32 s).getD i default).size<=s.size:=λi h=>Rc (Ae h))<;>(have hx:(s.extract 1 s.size).size<=s.size:=by rw[cZ];omega)<;>(try obtain⟨⟨⟨a1,a2,a3,a4,a5⟩,a6⟩,a7⟩:=i12)<;>(try obtain⟨⟨⟨a1,a2,a3,a4,a5⟩,a6⟩,a7⟩:=i42)<;>(try simp only[a7] at *)<;>(first|trivial|omega|skip)<;>(try have hn:¬ (0<s.size/\s.data.getD 0 0=47):=by intro hh;first|(exact absurd hh.2 ‹_›)|omega)<;>(try have hg:y12.1.name=(spl 32 s).getD 0 default:=cB af.name a4)<;>(try have hg:y42.1.name=(spl 32 s).getD 0 default:=cB af.name a4)<;>(try have h0:=hm 0 o_)<;>(try have hw:=hm y12.2.1.toNat o_)<;>(try have hw0:=EI 61 ((spl 32 s).getD y12.2.1.toNat default) 0)<;>(try have hw1:=EI 61 ((spl 32 s).getD y12.2.1.toNat default) 1)<;>(first|(rw[M2.1 o_];exact⟨rfl,rfl⟩)|(rw[M2.2 o_ o_ ‹_›,F_ (by rw[show isName _=false from ‹_›];decide)];exact⟨rfl,rfl⟩)|(rw[M2.2 o_ o_ ‹_›,G_ ‹_›];exact⟨rfl,rfl⟩)|(rw[hg];omega)|omega|skip)<;>(first|exact⟨o_,o_,by simp,trivial,rfl⟩|exact⟨o_,o_,o_⟩|skip)<;>(first|(rw[ZE o_,F_ (by rintro⟨c1,c2,c3,c4⟩;first|omega|exact absurd (c2.symm.trans (show isName _=false from ‹_›)) (by decide)|exact absurd (c3.symm.trans (show isValue _=false from ‹_›)) (by decide)|exact absurd (c4.symm.trans (show Option.isSome _=true from ‹_›)) (by decide))] at a5;rw[AfB o_ hn a5.symm];exact⟨rfl,rfl⟩)|skip)<;>(first|(rw[Lm o_] at a5;rw[WD o_ hn a5.symm,F_ (by rintro⟨c1,c2⟩;rw[<-hg] at c1;first|omega|exact absurd (c1.symm.trans (show isName _=false from ‹_›)) (by decide))];exact⟨rfl,rfl⟩)|(rw[Lm o_] at a5;rw[WD o_ hn a5.symm,G_ ⟨by rw[<-hg];assumption,o_⟩];exact⟨a4,rfl⟩)|skip)<;>rw[ZE o_,G_ (by exact⟨o_,‹_›,‹_›,‹_›⟩)] at a5<;>rw[Aw o_,C_ o_]<;>refine⟨⟨⟨⟨o_,o_,by rw[ak];simp only[aq,aU];omega,?_,a5⟩,a6⟩,trivial⟩,o_⟩<;>rw[a4])
def idxB (b:UInt8) (s:ByteArray):Nat:=(toL s).findIdx λx=>x==b
def IY (b:UInt8) (s:ByteArray):idxB b s<=s.size:=by
 have:=List.findIdx_le_length (xs:=toL s) (p:=λx=>x==b);rw[AN] at this;exact this
def Afc {b:UInt8} {s:ByteArray} {i:Nat} (h:i<s.size) (hb:s.data.getD i 0=b) (hn:b∉(toL s).take i):idxB b s=i:=by
 have e:toL s=(toL s).take i++b::(toL s).drop (i+1):=by rw[<-hb,<-Kc h,di]
 have hl:((toL s).take i).length=i:=by rw[cX,AN];omega
 unfold idxB;grind
def AfV {b:UInt8} {s:ByteArray} {i:Nat} (h:s.size<=i) (hn:b∉(toL s).take i):idxB b s=s.size:=by
 rw[ci (by rw[AN];exact h)] at hn;unfold idxB;rw[List.findIdx_eq_length_of_false λx hx=>by
  have:x≠b:=λe=>hn (e▸hx)
  simpa using this]
 rfl
abbrev KI:Fct:=⟨[.v (.el .str),.v (.el .u8)],[.el .int],λ(x:aa)=>x.1.size<=1000000000000/\0<=x.2.1/\x.2.1<=255,λ(x:aa)=>((idxB (UInt8.ofNat x.2.1.toNat) x.1:Int),())⟩
abbrev Do (s:ByteArray) (b:Int):LInv:=⟨[⟨.s,5,true,.el .int⟩],λ_ (x:E_)=>0<=x.1/\x.1<=s.size/\UInt8.ofNat b.toNat∉(toL s).take x.1.toNat,λ(x:E_)=>s.size-x.1.toNat⟩
def AmX:=AmO.a KI<|Fct.p (KP [0,1,4,5] [9,16]) (λ⟨s,b,_⟩=>lv [(2,Do s b)]) AmO.2 func114 (by
 rintro⟨(s:ByteArray),(b:Int),_⟩ hp;refine ho (lpx (Do s b) ((0:Int),()) λ(y1:E_) bk1=>.br (decide (y1.1<(s.size:Int))) (.ob (0<=y1.1/\y1.1<(s.size:Int))<|.br ((↑(s.data.getD y1.1.toNat 0).toNat:Int)==b) (.lf KI (y1.1,())) (.re (Value.string s)<|.re (Value.int IntKind.u8 b)<|.bk (bk1 (w1 y1.1,())))) (.lf KI ((s.size:Int),()))) ?_;refine Aq ?_ λ(y1:E_) i1=>Aa (λh2=>Ac ?_ λ_=>Aa (λh4=>lfY ?_) λh4=>An<|An<|AR ?_) (λh2=>lfY ?_)<;>obtain⟨hp1,hp2,hp3⟩:=hp<;>(try obtain⟨a1,a2,a3⟩:=i1)<;>(try simp only[AA] at *)<;>(try simp only[std,Nat.reduceAdd,Qa hp2 hp3] at *)<;>(try simp(disch:=omega) only[A_,C_] at *)<;>(try simp(disch:=omega) only[G_,F_])<;>(try have e:=Afc (show y1.1.toNat<s.size from o_) h4 a3)<;>(try have t:=Aa5 (show y1.1.toNat<s.size from o_) h4 a3)<;>(try have e:=AfV (show s.size<=y1.1.toNat from o_) a3)<;>(first|trivial|omega|grind))
def feed:Nat->ByteArray->List af×ByteArray
 | 0,x=>([],x)
 | f+1,x=>
  if 0<idxB 60 x/\idxB 60 x<x.size then(⟨3,⟨#[]⟩,[],x.extract 0 (idxB 60 x)⟩::(feed f (x.extract (idxB 60 x) x.size)).1,(feed f (x.extract (idxB 60 x) x.size)).2)
  else if idxB 60 x≠0\/idxB 62 x=x.size then([],x)
  else(if(tagOf (x.extract 1 (idxB 62 x))).2 then(tagOf (x.extract 1 (idxB 62 x))).1::(feed f (x.extract (idxB 62 x+1) x.size)).1 else(feed f (x.extract (idxB 62 x+1) x.size)).1,(feed f (x.extract (idxB 62 x+1) x.size)).2)
def Jy:∀ (f g:Nat) (x:ByteArray),x.size<f->x.size<g->feed f x=feed g x
 | 0,_,x,h,_=>o_
 | _,0,x,_,h=>o_
 | f+1,g+1,x,h1,h2=>by
  have hl:=IY 62 x;simp only[feed];split
  ·rename_i hc;rw[Jy f g (x.extract (idxB 60 x) x.size) (by rw[cZ];omega) (by rw[cZ];omega)]
  ·split
   ·rfl
   ·rename_i hc;rw[Jy f g (x.extract (idxB 62 x+1) x.size) (by rw[cZ];omega) (by rw[cZ];omega)]
def feedAll (x:ByteArray):List af×ByteArray:=feed (x.size+1) x
def Rs {x:ByteArray} (h:0<idxB 60 x) (h2:idxB 60 x<x.size):feedAll x=(⟨3,⟨#[]⟩,[],x.extract 0 (idxB 60 x)⟩::(feedAll (x.extract (idxB 60 x) x.size)).1,(feedAll (x.extract (idxB 60 x) x.size)).2):=by
 have e:feed x.size (x.extract (idxB 60 x) x.size)=feedAll (x.extract (idxB 60 x) x.size):=Jy _ _ _ (by rw[cZ];omega) o_;show feed (x.size+1) x=_;rw[feed,G_ ⟨h,h2⟩,e]
def JX {x:ByteArray} (h:¬ (0<idxB 60 x/\idxB 60 x<x.size)) (h2:idxB 60 x≠0\/idxB 62 x=x.size):feedAll x=([],x):=by
 show feed (x.size+1) x=_;rw[feed,F_ h,G_ h2]
def VF {x:ByteArray} (h:idxB 60 x=0) (h2:idxB 62 x<x.size):feedAll x=(if(tagOf (x.extract 1 (idxB 62 x))).2 then(tagOf (x.extract 1 (idxB 62 x))).1::(feedAll (x.extract (idxB 62 x+1) x.size)).1 else(feedAll (x.extract (idxB 62 x+1) x.size)).1,(feedAll (x.extract (idxB 62 x+1) x.size)).2):=by
 have e:feed x.size (x.extract (idxB 62 x+1) x.size)=feedAll (x.extract (idxB 62 x+1) x.size):=Jy _ _ _ (by rw[cZ];omega) o_;show feed (x.size+1) x=_;rw[feed,F_ o_,F_ o_,e]
def Aaf {x:ByteArray} (h:idxB 60 x=0) (h2:idxB 62 x<x.size):1<=idxB 62 x:=by
 unfold idxB at *
 have hl:(toL x).length=x.size:=rfl;cases hx:toL x with
 | nil=>rw[hx] at hl;simp only[aU] at hl;omega
 | cons c l=>
  grind
abbrev JD:Fct:=⟨[.v (.el .tokenizer),.v (.el .str)],[.sl .token,.el .tokenizer],λ(x:gN)=>x.1.rest.size<=50000000/\x.2.1.size<=50000000,λ(x:gN)=>((feedAll (x.1.rest++x.2.1)).1,⟨(feedAll (x.1.rest++x.2.1)).2⟩,())⟩
abbrev By (t:dj) (s:ByteArray):LInv:=⟨[⟨.s,6,true,.sl .token⟩,⟨.s,7,true,.el .str⟩,⟨.b,5,true,.el .tokenizer⟩],λ(z x:fq)=>(x.1.length+x.2.1.size<=(t.rest++s).size/\x.1++(feedAll x.2.1).1=(feedAll (t.rest++s)).1/\(feedAll x.2.1).2=(feedAll (t.rest++s)).2)/\x.2.2.1=z.2.2.1,λ(x:fq)=>x.2.1.size⟩
def AnV:=AmX.a JD<|Fct.p (KP [1,2,4,5,6,7,8,9,10,11] [26,46,57]) (λ⟨t,s,_⟩=>lv [(3,By t s)]) AmX.2 func67 (by
 rintro⟨(t:dj),(s:ByteArray),_⟩ hp;refine ho (let ar:=Value.string s;.ob (sameSize t.rest s)<|lpx (By t s) ([],(t.rest++s,(default,()))) λ(y2:fq) bk2=>let R_:Out:=.lf JD (y2.1,⟨y2.2.1⟩,());let J_:=(y2.2.1.size:Int);.cl KI (y2.2.1,(60:Int),()) λ(z2:E_)=>let ax:=0<=z2.1/\z2.1<=J_;let M_:=(⟨(3:Int),(⟨#[]⟩:ByteArray),[],y2.2.1.extract 0 z2.1.toNat⟩:af);let H_:Out:=.cl KI (y2.2.1,(62:Int),()) λ(z3:E_)=>let Z_:=0<=w1 z3.1/\w1 z3.1<=J_;.br (z2.1 != 0) R_ (.br (z3.1==J_) R_ (.ob ((0:Int)<=(1:Int)/\1<=z3.1/\z3.1<=J_)<|.cl Ac0 (y2.2.1.extract 1 z3.1.toNat,()) λz4=>.br (z4.2.1) (.ob (IJ (y2.1.length+[z4.1].length) 64)<|.ob Z_<|.re ar<|.bk (bk2 (y2.1++[z4.1],(y2.2.1.extract (w1 z3.1).toNat y2.2.1.size,(y2.2.2.1,()))))) (.ob Z_<|.re ar<|.bk (bk2 (y2.1,(y2.2.1.extract (w1 z3.1).toNat y2.2.1.size,(y2.2.2.1,())))))));.br (decide (z2.1>0)) (.br (decide (z2.1<J_)) (.ob ax<|.ob (IJ (y2.1.length+[M_].length) 64)<|.ob ax<|.re ar<|.bk (bk2 (y2.1++[M_],(y2.2.1.extract z2.1.toNat y2.2.1.size,(y2.2.2.1,()))))) H_) H_) ?_;repeat' (guard_target =~ Out.holds _ _;first|refine Aq (li:=By t s) ?_ λ(y2:fq) i2=>?_|refine lfY ?_|refine Aa (λ_=>?_) λ_=>?_|refine Aj ?_ λ_=>?_|refine Ac ?_ λ_=>?_|refine AR ?_|refine An ?_)
 all_goals (try obtain⟨⟨a1,a2,a3⟩,a4⟩:=i2)<;>(try simp only[AA] at *)<;>(try simp only[std,Nat.reduceAdd] at *)<;>(try simp(disch:=omega) only[A_,C_] at *)<;>(try simp(disch:=omega) only[G_,F_])<;>(try simp only[show UInt8.ofNat (Int.toNat 60)=60 from rfl,show UInt8.ofNat (Int.toNat 62)=62 from rfl,ev,aN] at *)<;>(try have k1:=IY 60 y2.2.1)<;>(try have k2:=IY 62 y2.2.1)<;>(try have k3:=Aaf (x:=y2.2.1))<;>(try have k4:∀ a b,(y2.2.1.extract a b).size<=y2.2.1.size:=λa b=>by rw[cZ];omega)<;>(try simp(disch:=omega) only[A_] at *)<;>(first|trivial|omega|(unfold sameSize;omega)|(have:=k4 1 (idxB 62 y2.2.1);omega)|skip)<;>(first|exact⟨Int.natCast_nonneg _,Int.ofNat_le.2 k1⟩|skip)<;>(try simp only[av,cy] at *)<;>(first|omega|exact⟨o_,o_⟩|exact⟨o_,o_,o_⟩|skip)<;>(have k5:∀ a,(y2.2.1.extract a y2.2.1.size).size=y2.2.1.size-a:=λa=>by rw[cZ];omega)<;>(first|(rw[JX (x:=y2.2.1) o_ o_] at a2 a3;rw[cz] at a2;exact⟨a2,by rw[<-a3]⟩)|skip)<;>(first|rw[Rs (x:=y2.2.1) o_ o_] at a2 a3|(rw[VF (x:=y2.2.1) o_ o_] at a2 a3;first|rw[G_ ‹_›] at a2|rw[F_ (by rw[show Prod.snd _=false from ‹_›];decide)] at a2))<;>(try simp only[Aw (show -9223372036854775808<=((idxB 62 y2.2.1:Nat):Int)+1/\((idxB 62 y2.2.1:Nat):Int)+1<=9223372036854775807 from o_),show(((idxB 62 y2.2.1:Nat):Int)+1).toNat=idxB 62 y2.2.1+1 from o_] at *)<;>refine⟨⟨⟨?_,?_,a3⟩,a4⟩,?_⟩<;>(first|(rw[k5];simp only[ak,aq,aU];omega)|(rw[k5];omega)|exact a2|(rw[bF];exact a2)|skip))
def WV {α:Type} [Inhabited α] (f:α->Nat) {l:List α} {i:Nat} (h:i<l.length):szL f (l.drop i)=f (l.getD i default)+1+szL f (l.drop (i+1)):=by rw[B_ h,Ah]
def NS {b:UInt8}:∀ {l p q:List UInt8},Ge b l=some (p,q)->p.length+q.length+1=l.length
 | [],p,q,h=>by cases h
 | x::l,p,q,h=>by
  rw[Ge] at h;split at h
  ·simp_all
  ·obtain⟨r,hr,he⟩:=Option.map_eq_some_iff.1 h;have:=NS (p:=r.1) (q:=r.2) hr;grind
def NE:∀ {l:List ByteArray} {acc ats:List cU},tagAttrs l acc=some ats->szL BH ats<=szL BH acc+szL Ag l
 | [],acc,ats,h=>by simp only[tagAttrs,Q_] at h;subst h;omega
 | w::l,acc,ats,h=>by
  simp only[tagAttrs] at h;split at h
  ·cases h
  ·rename_i r hr;split at h
   ·have h1:=NE h;have h2:=NS (p:=r.1) (q:=r.2) hr;rw[EU] at h1;rw[Ah,Ag];rw[AN] at h2;simp only[BH,Dd] at h1;omega
   ·cases h
def AeU (s:ByteArray):szToken (tagOf s).1<=s.size:=by
 have h0:szToken default=0:=by decide
 unfold tagOf;split
 ·simp only[h0];omega
 ·split
  ·split
   ·simp only[szToken,szL,cZ,List.map_nil,List.sum_nil,aU,show ByteArray.size ⟨#[]⟩=0 from rfl];omega
   ·simp only[h0];omega
  ·have hs:=Pu 32 s;have hp:=(Fy 32 s).1;cases ht:tagAttrs ((spl 32 s).drop 1) [] with
   | none=>simp only[tagFin,h0];omega
   | some ats=>
    have h1:=NE ht;have h2:=WV Ag (l:=spl 32 s) (i:=0) hp;rw[fI,cE] at h2;have h3:szL BH []=0:=rfl;simp only[tagFin];simp only[Ag] at h2;split
    ·simp only[szToken,show ByteArray.size ⟨#[]⟩=0 from rfl];omega
    ·simp only[h0];omega
def AjT {b:UInt8} {x:ByteArray} (h:idxB b x<x.size):idxB b (x.extract (idxB b x) x.size)=0:=by
 have hl:idxB b x<(toL x).length:=h;have hg:=List.findIdx_getElem (w:=hl);unfold idxB at *
 rw[Az,ci (by rw[AN];exact Y_ _),List.drop_eq_getElem_cons hl,List.findIdx_cons,hg];rfl
def Aft:∀ (f:Nat) (x:ByteArray),szL szToken (feed f x).1+(feed f x).2.size<=x.size+(if idxB 60 x=0 then 0 else 1):=by
 intro f
 induction f with
 | zero=>intro x;have:szL szToken []=0:=rfl;simp only[feed];omega
 | succ f ih=>
  intro x;have hl:=IY 62 x;have h3:szL BH []=0:=rfl;have h4:szL szToken []=0:=rfl;simp only[feed];split
  ·rename_i hc;have:=ih (x.extract (idxB 60 x) x.size);have hz:idxB 60 (x.extract (idxB 60 x) x.size)=0:=AjT hc.2;rw[Ah];rw[G_ hz] at this;rw[F_ o_];simp only[szToken,cZ,show ByteArray.size ⟨#[]⟩=0 from rfl,h3] at *
   omega
  ·split
   ·simp_all
   ·rename_i hc;have:=ih (x.extract (idxB 62 x+1) x.size);have ht:=AeU (x.extract 1 (idxB 62 x));have ho:=Aaf (x:=x) o_ o_;rw[cZ] at this ht;rw[G_ (show idxB 60 x=0 from o_)];have h5:szL szToken (feed f (x.extract (idxB 62 x+1) x.size)).1+(feed f (x.extract (idxB 62 x+1) x.size)).2.size<=x.size-(idxB 62 x+1)+1:=by split at this<;>omega
    split
    ·simp only[Ah];omega
    ·dsimp only;omega
def endText (r:ByteArray):List af:=if r=⟨#[]⟩\/r.data.getD 0 0=60 then[] else[⟨3,⟨#[]⟩,[],r⟩]
def ON (r:ByteArray):szL szToken (endText r)<=r.size+1:=by
 unfold endText;have h3:szL BH []=0:=rfl;have h4:szL szToken []=0:=rfl;split
 ·omega
 ·rw[Ah];simp only[szToken,h3,h4,show ByteArray.size ⟨#[]⟩=0 from rfl];omega
def Akb {s:ByteArray} {i:Nat}:((s.data.getD i 0).toNat:Int)=60↔s.data.getD i 0=60:=AlQ (b:=60) o_
def AeP {s:ByteArray} (h:¬ s=⟨#[]⟩):0<s.size:=by
 rcases Nat.eq_zero_or_pos s.size with h0|h0
 ·exact absurd (ByteArray.ext (Array.eq_empty_of_size_eq_zero h0)) h
 ·exact h0
abbrev Iw:Fct:=⟨[.v (.el .tokenizer)],[.sl .token],λ(x:dj×Unit)=>x.1.rest.size<=1000000000000,λ(x:dj×Unit)=>(endText x.1.rest,())⟩
def AnB:=AnV.a Iw<|Fct.o (KP [1,2] [11]) AnV.2 func66 (by
 rintro⟨(t:dj),_⟩ hp;refine ho (.br (t.rest.toList==(⟨#[]⟩:ByteArray).toList) (.lf Iw ([],())) (.ob ((0:Int)<=(0:Int)/\(0:Int)<(t.rest.size:Int))<|.br ((↑(t.rest.data.getD 0 0).toNat:Int)==60) (.lf Iw ([],())) (.lf Iw ([(⟨(3:Int),(⟨#[]⟩:ByteArray),[],t.rest⟩:af)],())))) ?_;refine Aa (λh1=>lfY ?_) λh1=>Ac ?_ λ_=>Aa (λh3=>lfY ?_) λh3=>lfY ?_;all_goals
  try simp only[AA] at *
  try simp only[std,Nat.reduceAdd,endText,Akb] at *
 all_goals have hz:=@AeP t.rest<;>(first|trivial|omega|(have:=hz ‹_›;omega)|rw[G_ (by first|exact .inl ‹_›|exact .inr ‹_›)]|rw[F_ (by rintro(h|h)<;>contradiction)]))
def M7 (r:ByteArray):(endText r).length<=1:=by unfold endText;split<;>simp
theorem dC:(default:dj).rest=⟨#[]⟩/\(∀ s:ByteArray,(⟨#[]⟩:ByteArray)++s=s)/\ByteArray.size ⟨#[]⟩=0:=⟨rfl,λs=>ByteArray.ext (by simp),rfl⟩
def tokensOf (s:ByteArray):List af:=(feedAll s).1++endText (feedAll s).2
def KO (x:ByteArray):szL szToken (feedAll x).1+(feedAll x).2.size<=x.size+1:=by
 have:=Aft (x.size+1) x;unfold feedAll;grind
def MB (x:ByteArray):(feedAll x).1.length+(feedAll x).2.size<=x.size+1:=by
 have:=KO x;have:=Ad szToken (feedAll x).1;omega
abbrev Mu:Fct:=⟨[.v (.el .str)],[.sl .token],λ(x:D_)=>x.1.size<=10000000,λ(x:D_)=>(tokensOf x.1,())⟩
def Amh:=AnB.a Mu<|Fct.o [0,2,3,4] AnB.2 func142 (by
 rintro⟨(s:ByteArray),_⟩ hp;refine ho (.cl JD (default,s,()) λz2=>.cl Iw (z2.2.1,()) λz3=>.ob (IJ (z2.1.length+z3.1.length) 64)<|.lf Mu (z2.1++z3.1,())) ?_;refine Aj ?_ λ_=>(Aj ?_ λ_=>Ac ?_ λ_=>lfY ?_)<;>(have hz:=MB s;have he:=M7 (feedAll s).2;try simp only[AA] at *)<;>(try simp only[std,Nat.reduceAdd,tokensOf,dC] at *)<;>(try simp(disch:=omega) only[A_,C_] at *)<;>(try simp(disch:=omega) only[G_,F_])<;>(first|trivial|omega|grind[A_,C_,B_,K_,I_,maxLen,tokensOf,dC]))
def arriveText (p:HO) (s:ByteArray):HO:=if p.ended=true then p else{ p with bp:=p.bp++(feedAll (p.tok.rest++s)).1,tok:=⟨(feedAll (p.tok.rest++s)).2⟩}
abbrev Fx:Fct:=⟨[.v (.el .page),.v (.el .str)],[.el .page],λ(x:dy)=>Al x.1<=1000000000000/\x.1.tok.rest.size<=10000000/\x.2.1.size<=10000000,λ(x:dy)=>(arriveText x.1 x.2.1,())⟩
def AmB:=Amh.a Fx<|Fct.o (KP [1,2,4,5,6,7] [11]) Amh.2 func31 (by
 rintro⟨(p:HO),(s:ByteArray),_⟩ hp;refine ho (.cl AW (p,()) λz2=>.br (p.ended) (.lf Fx (z2.1,())) (.cl JD (p.tok,s,()) λz3=>.ob (IJ (z2.1.bp.length+z3.1.length) 64)<|.lf Fx ({z2.1 with tok:=z3.2.1,bp:=z2.1.bp++z3.1},()))) ?_;refine Aj ?_ λ_=>(Aa (λh2=>lfY ?_) λh2=>Aj ?_ λ_=>Ac ?_ λ_=>lfY ?_)<;>(have hz:=MB (p.tok.rest++s);have hl2:=Ad szToken p.bp;have hq:szL szToken p.bp+p.tok.rest.size<=Al p:=by simp only[Al,Ek];omega)<;>rw[aN] at hz<;>(try simp only[AA] at *)<;>(try simp only[std,Nat.reduceAdd,arriveText] at *)<;>(try simp(disch:=omega) only[A_,C_] at *)<;>(try simp(disch:=omega) only[G_,F_])<;>(first|trivial|omega|grind[A_,C_,B_,K_,I_,maxLen,arriveText]))
def endPage (p:HO):HO:=if p.ended=true then p else{ p with bp:=p.bp++endText p.tok.rest,tok:=default,ended:=true }
abbrev J5:Fct:=⟨[.v (.el .page)],[.el .page],λ(x:ai)=>Al x.1<=1000000000000,λ(x:ai)=>(endPage x.1,())⟩
def AmC:=AmB.a J5<|Fct.o (KP [1,2,3] [7]) AmB.2 func30 (by
 rintro⟨(p:HO),_⟩ hp;exact hg (.cl AW (p,()) λz2=>.br (p.ended) (.lf J5 (z2.1,())) (.cl Iw (p.tok,()) λz3=>.ob (IJ (z2.1.bp.length+z3.1.length) 64)<|.lf J5 ({z2.1 with tok:=default,bp:=z2.1.bp++z3.1,ended:=true},()))) (an_ @endPage.eq_1<|an_ (M7 p.tok.rest)<|an_ (Ad szToken p.bp)<|(by simp only[Al,Ek];omega:szL szToken p.bp+p.tok.rest.size<=Al p)))
def stylesReady (l:List aw):Bool:=l.all λs=>!(decide (s.mode=2) && !s.done)
def Aah {l:List aw} {i:Nat} (h:i<l.length):stylesReady (l.drop i)=(!(decide ((l.getD i default).mode=2) && !(l.getD i default).done)&&stylesReady (l.drop (i+1))):=by rw[B_ h];rfl
def XT {l:List aw} {i:Nat} (h:l.length<=i):stylesReady (l.drop i)=true:=by rw[bQ h];rfl
abbrev CK:Fct:=⟨[.v (.el .page)],[.el .bool],λ(x:ai)=>x.1.bf.length<=1000000000000,λ(x:ai)=>(stylesReady x.1.bf,())⟩
abbrev AZ (p:HO):LInv:=⟨[⟨.s,3,true,.el .int⟩,⟨.b,1,false,.el .page⟩],λ(z x:Int×HO×Unit)=>(0<=x.1/\x.1<=p.bf.length/\stylesReady (p.bf.drop x.1.toNat)=stylesReady p.bf)/\x.2.1=z.2.1,λ(x:Int×HO×Unit)=>p.bf.length-x.1.toNat⟩
def AnE:=AmC.a CK<|Fct.p (KP [1,2,3] [8,26]) (λ⟨p,_⟩=>lv [(2,AZ p)]) AmC.2 func105 (by
 rintro⟨(p:HO),_⟩ hp;exact hg (.lq (Int×HO×PUnit) (AZ p).inv (AZ p).m ((0:Int),(p,())) λy1 bk1=>.br (decide (y1.1<(y1.2.1.bf.length:Int))) (.ob (inB y1.1 y1.2.1.bf.length)<|.br ((y1.2.1.bf.getD y1.1.toNat default).mode==2) (.ob (inB y1.1 y1.2.1.bf.length)<|.br (!(y1.2.1.bf.getD y1.1.toNat default).done) (.lf CK (false,())) (.bk (bk1 (w1 y1.1,(y1.2.1,()))))) (.bk (bk1 (w1 y1.1,(y1.2.1,()))))) (.lf CK (true,()))) (an_ @Aah<|@XT))
def textOf (n:Int):List cP->ByteArray->ByteArray
 | [],s=>s
 | x::l,s=>textOf n l (if x.parent=n/\x.name=⟨#[]⟩ then s++x.text else s)
def Z0 {n:Int} {l:List cP} {i:Nat} {s:ByteArray} (h:i<l.length):textOf n (l.drop i) s=textOf n (l.drop (i+1)) (if(l.getD i default).parent=n/\(l.getD i default).name=⟨#[]⟩ then s++(l.getD i default).text else s):=by rw[B_ h];rfl
def XW {n:Int} {l:List cP} {i:Nat} {s:ByteArray} (h:l.length<=i):textOf n (l.drop i) s=s:=by rw[bQ h];rfl
abbrev TX:Fct:=⟨[.v (.el .ba),.v (.el .int)],[.el .str],λ(x:ft)=>szBuilder x.1<=1000000000000,λ(x:ft)=>(textOf x.2.1 x.1.bj ⟨#[]⟩,())⟩
abbrev DY (b:aj) (n:Int):LInv:=⟨[⟨.s,5,true,.el .str⟩,⟨.s,6,true,.el .int⟩,⟨.b,2,false,.el .ba⟩],λ(z x:gO)=>(0<=x.2.1/\x.2.1<=b.bj.length/\x.1.size+szL AF (b.bj.drop x.2.1.toNat)<=szL AF b.bj/\textOf n (b.bj.drop x.2.1.toNat) x.1=textOf n b.bj ⟨#[]⟩)/\x.2.2.1=z.2.2.1,λ(x:gO)=>b.bj.length-x.2.1.toNat⟩
def Ano:=AnE.a TX<|Fct.p (KP [1,2,4,5,6] [11,30]) (λ⟨b,n,_⟩=>lv [(3,DY b n)]) AnE.2 func107 (by
 rintro⟨(b:aj),(n:Int),_⟩ hp;exact hg (let ar:=Value.int IntKind.i64 n;let Z_:=DY b n;let R_:=(⟨#[]⟩:ByteArray);.lq (ByteArray×Int×aj×PUnit) Z_.inv Z_.m (R_,((0:Int),(b,()))) λy1 bk1=>let M_:=inB y1.2.1 y1.2.2.1.bj.length;let J_:=y1.2.2.1.bj.getD y1.2.1.toNat default;let H_:Out:=.re ar<|.re (Value.string R_)<|.bk (bk1 (y1.1,(w1 y1.2.1,(y1.2.2.1,()))));.br (decide (y1.2.1<(y1.2.2.1.bj.length:Int))) (.ob M_<|.br (J_.parent==n) (.ob M_<|.br (J_.name.toList==R_.toList) (.ob M_<|.ob (sameSize y1.1 J_.text)<|.re ar<|.re (Value.string R_)<|.bk (bk1 (y1.1++J_.text,(w1 y1.2.1,(y1.2.2.1,()))))) H_) H_) (.lf TX (y1.1,()))) (an_ @Z0<|an_ @XW<|an_ @sameSize.eq_1<|an_ @aN<|an_ @AF.eq_1<|an_ (Ad AF b.bj)<|an_ (by simp only[szBuilder];omega:szL AF b.bj<=szBuilder b)<|(λi h=>WV AF h:∀ i,i<b.bj.length->szL AF (b.bj.drop i)=AF (b.bj.getD i default)+1+szL AF (b.bj.drop (i+1)))))
def countName (n:ByteArray) (l:List cP):Int:=BB (λx=>decide (x.name=n)) l
abbrev Dv:Fct:=⟨[.v (.el .ba),.v (.el .str)],[.el .int],λ(x:fu)=>x.1.bj.length<=1000000000000,λ(x:fu)=>(countName x.2.1 x.1.bj,())⟩
abbrev Bl (b:aj) (n:ByteArray):LInv:=⟨[⟨.s,5,true,.el .int⟩,⟨.s,6,true,.el .int⟩,⟨.b,2,false,.el .ba⟩],λ(z x_:gP)=>(0<=x_.2.1/\x_.2.1<=b.bj.length/\0<=x_.1/\x_.1<=x_.2.1/\x_.1+BB (λx=>decide (x.name=n)) (b.bj.drop x_.2.1.toNat)=countName n b.bj)/\x_.2.2.1=z.2.2.1,λ(x_:gP)=>b.bj.length-x_.2.1.toNat⟩
def Aoa:=Ano.a Dv<|Fct.p (KP [1,2,4,5,6] [11,21]) (λ⟨b,n,_⟩=>lv [(3,Bl b n)]) Ano.2 func215 (by
 rintro⟨(b:aj),(n:ByteArray),_⟩ hp;exact hg (.lq (Int×Int×aj×PUnit) (Bl b n).inv (Bl b n).m ((0:Int),((0:Int),(b,()))) λy1 bk1=>.br (decide (y1.2.1<(y1.2.2.1.bj.length:Int))) (.ob (inB y1.2.1 y1.2.2.1.bj.length)<|.br ((y1.2.2.1.bj.getD y1.2.1.toNat default).name.toList==n.toList) (.re (Value.string n)<|.re (Value.int IntKind.i64 (0:Int))<|.bk (bk1 (w1 y1.1,(w1 y1.2.1,(y1.2.2.1,()))))) (.re (Value.string n)<|.re (Value.int IntKind.i64 (0:Int))<|.bk (bk1 (y1.1,(w1 y1.2.1,(y1.2.2.1,())))))) (.lf Dv (y1.1,()))) (an_ @countName.eq_1<|an_ @BB.eq_1<|an_ @BB.eq_2<|@IB))
def colR (n:ByteArray) (rs:List dE) (z:Int):Nat->Int
 | 0=>z
 | m+1=>if(rs.getD m default).name=n then(rs.getD m default).color else colR n rs z m
def colS (n:ByteArray) (l:List bA):Nat->Int
 | 0=>0
 | m+1=>colR n (l.getD m default).rules (colS n l m) (l.getD m default).rules.length
def colorOf (l:List bA) (n:ByteArray):Int:=colS n l l.length
def AaO {n:ByteArray} {rs:List dE} {z k:Int} (h:0<=k):colR n rs z (k+1).toNat=if(rs.getD k.toNat default).name=n then(rs.getD k.toNat default).color else colR n rs z k.toNat:=by
 rw[show(k+1).toNat=k.toNat+1 from o_];rfl
def Aab {n:ByteArray} {l:List bA} {k:Int} (h:0<=k):colS n l (k+1).toNat=colR n (l.getD k.toNat default).rules (colS n l k.toNat) (l.getD k.toNat default).rules.length:=by
 rw[show(k+1).toNat=k.toNat+1 from o_];rfl
def Afz {n:ByteArray} {rs:List dE} {z k:Int} (h:k<0):colR n rs z (k+1).toNat=z:=by
 rw[show(k+1).toNat=0 from o_];rfl
def AeW {n:ByteArray} {l:List bA} {k:Int} (h:k<0):colS n l (k+1).toNat=0:=by
 rw[show(k+1).toNat=0 from o_];rfl
def Aeg {n:ByteArray} {l:List bA}:colS n l ((l.length:Int)-1+1).toNat=colorOf l n:=by
 rw[show((l.length:Int)-1+1).toNat=l.length from o_];rfl
def Vy {n:ByteArray} {rs:List dE} {z:Int}:colR n rs z ((rs.length:Int)-1+1).toNat=colR n rs z rs.length:=by
 simp
abbrev EN:Fct:=⟨[.v (.sl .sheet),.v (.el .str)],[.el .int],λ(x:gQ)=>szL Eh x.1<=1000000000000,λ(x:gQ)=>(colorOf x.1 x.2.1,())⟩
abbrev C5 (l:(List bA)) (n:ByteArray):LInv:=⟨[⟨.s,5,true,.el .int⟩],λ_ (x:E_)=>-1<=x.1/\x.1<l.length/\colS n l (x.1+1).toNat=colorOf l n,λ(x:E_)=>(x.1+1).toNat⟩
abbrev C9 (l:(List bA)) (n:ByteArray):LInv:=⟨[⟨.s,6,true,.el .int⟩,⟨.s,5,true,.el .int⟩],λ(z x:bI)=>x.2.1=z.2.1/\0<=x.2.1/\x.2.1<l.length/\-1<=x.1/\x.1<(l.getD x.2.1.toNat default).rules.length/\colR n (l.getD x.2.1.toNat default).rules (colS n l x.2.1.toNat) (x.1+1).toNat=colorOf l n,λ(x:bI)=>(x.1+1).toNat⟩
def Amo:=Aoa.a EN<|Fct.p (KP [0,1,4,5,6] [11,22,35]) (λ⟨l,n,_⟩=>λ|2=>some (C5 l n)|5=>some (C9 l n)|_=>none) Aoa.2 func216 (by
 rintro⟨(l:List bA),(n:ByteArray),_⟩ hp;refine ho (lpx (C5 l n) (wr ((l.length:Int)-(1:Int)),()) λ(y1:E_) bk1=>.br (decide (y1.1>=0)) (.ob (inB y1.1 l.length)<|lpx (C9 l n) (wr ((↑(l.getD y1.1.toNat default).rules.length:Int)-(1:Int)),(y1.1,())) λ(y4:bI) bk4=>let R_:=inB y4.2.1 l.length;let H_:=l.getD y4.2.1.toNat default;let M_:=H_.rules.getD y4.1.toNat default;let J_:=0<=y4.1/\y4.1<(H_.rules.length:Int);.br (decide (y4.1>=0)) (.ob R_<|.ob J_<|.br (M_.name.toList==n.toList) (.ob R_<|.ob J_<|.lf EN (M_.color,())) (.re (l)<|.re (Value.string n)<|.bk (bk4 (wr (y4.1-(1:Int)),(y4.2.1,()))))) (.re (l)<|.re (Value.string n)<|.bk (bk1 (wr (y4.2.1-(1:Int)),())))) (.lf EN ((0:Int),()))) ?_;refine Aq ?_ λ(y1:E_) i1=>Aa (λh2=>Ac ?_ λ_=>Aq ?_ λ(y4:bI) i4=>Aa (λh5=>Ac ?_ λ_=>Ac ?_ λ_=>Aa (λh8=>Ac ?_ λ_=>Ac ?_ λ_=>lfY ?_) λh8=>An<|An<|AR ?_) λh5=>An<|An<|AR ?_) (λh2=>lfY ?_)<;>(have hl:=Ad Eh l;have hx:∀ i,i<l.length->(l.getD i default).rules.length<=1000000000000:=λi h=>by have:=Ct Eh (l:=l) h;have h2:=Ad Oh (l.getD i default).rules;have h3:szL Eh l<=1000000000000:=hp;simp only[Eh] at this;omega)<;>(try simp only[AA] at *)<;>(try simp only[std,Nat.reduceAdd] at *)<;>(first|trivial|omega|(rw[Aw o_];exact⟨o_,o_,Aeg⟩)|(obtain⟨a1,a2,a3⟩:=i1))<;>(first|trivial|omega|(have:=hx y1.1.toNat o_;rw[Aw o_];first|exact⟨o_,o_,o_,o_,o_,by rw[Vy,<-Aab o_];exact a3⟩|exact⟨o_,o_,o_,o_,by rw[Vy,<-Aab o_];exact a3⟩)|(rw[AeW o_] at a3;exact a3)|(obtain⟨b0,b1,b2,b3,b4,b5⟩:=i4))<;>(first|(have:=hx y4.2.1.toNat o_)|skip)<;>(first|(rw[AaO o_,G_ ‹_›] at b5;exact b5)|(rw[AaO o_,F_ ‹_›] at b5;rw[Aw o_,show(y4.1-1+1).toNat=y4.1.toNat from o_];exact⟨⟨o_,o_,o_,o_,o_,b5⟩,o_⟩)|(rw[Afz o_] at b5;rw[Aw o_,show(y4.2.1-1+1).toNat=y4.2.1.toNat from o_];exact⟨⟨o_,o_,b5⟩,o_⟩)|omega|skip))
def words8:List ByteArray:=[⟨#[]⟩,⟨#[119,114,105,116,101,32]⟩,⟨#[97,100,100,32]⟩,⟨#[99,111,117,110,116,32]⟩,⟨#[108,111,111,107,32]⟩,⟨#[115,97,121,32]⟩]
abbrev TJ:Fct:=⟨[],[.sl .str],λ(x:Unit)=>True,λ(x:Unit)=>(words8,())⟩
def Ana:=Amo.a TJ<|Fct.o [0] Amo.2 func213 (by
 rintro⟨_⟩ hp;exact hg (.lf TJ ([(⟨#[]⟩:ByteArray),(⟨#[119,114,105,116,101,32]⟩:ByteArray),(⟨#[97,100,100,32]⟩:ByteArray),(⟨#[99,111,117,110,116,32]⟩:ByteArray),(⟨#[108,111,111,107,32]⟩:ByteArray),(⟨#[115,97,121,32]⟩:ByteArray)],())) (@words8.eq_1))
def line8L (s:ByteArray):List ByteArray->Int->bM×Bool
 | [],_=>(default,false)
 | w::l,op=>if w.size<=s.size/\s.extract 0 w.size=w then(⟨op,s.extract w.size s.size⟩,if op=1\/op=5 then decide (s.size-w.size<=60) else isName (s.extract w.size s.size)) else line8L s l (op+1)
def Abv {s:ByteArray} {l:List ByteArray} {i:Nat} {k:Int} (h:i<l.length):line8L s (l.drop i) k=if(l.getD i default).size<=s.size/\s.extract 0 (l.getD i default).size=l.getD i default then(⟨k,s.extract (l.getD i default).size s.size⟩,if k=1\/k=5 then decide (s.size-(l.getD i default).size<=60) else isName (s.extract (l.getD i default).size s.size)) else line8L s (l.drop (i+1)) (k+1):=by rw[B_ h];rfl
def YO {s:ByteArray} {l:List ByteArray} {i:Nat} {k:Int} (h:l.length<=i):line8L s (l.drop i) k=(default,false):=by rw[bQ h];rfl
def line8 (s:ByteArray):bM×Bool:=line8L s (words8.drop 1) 1
def Km:words8.length=6:=rfl
abbrev O3:Fct:=⟨[.v (.el .str)],[.el .line,.el .bool],λ(x:D_)=>x.1.size<=1000000000000,λ(x:D_)=>((line8 x.1).1,(line8 x.1).2,())⟩
abbrev Ec (s:ByteArray):LInv:=⟨[⟨.s,5,true,.el .int⟩,⟨.b,2,true,.el .line⟩,⟨.s,4,true,.sl .str⟩],λ(z x:fw)=>((1<=x.1/\x.1<=6/\line8L s (words8.drop x.1.toNat) x.1=line8 s)/\x.2.1=z.2.1)/\x.2.2.1=z.2.2.1,λ(x:fw)=>(6-x.1).toNat⟩
def Amt:=Ana.a O3<|Fct.p (KP [0,2,3,4,5,6,7,8] [13,32]) (λ⟨s,_⟩=>lv [(3,Ec s)]) Ana.2 func185 (by
 rintro⟨(s:ByteArray),_⟩ hp;refine ho (.cl TJ () λz2=>lpx (Ec s) ((1:Int),(default,(z2.1,()))) λ(y1:fw) bk1=>let cg:=y1.2.2.1.getD y1.1.toNat default;let ar:Out:=.re (Value.string s)<|.bk (bk1 (w1 y1.1,(y1.2.1,(y1.2.2.1,()))));let H_:=(cg.size:Int);let bK:=(0:Int)<=H_/\H_<=(s.size:Int);let aK:=decide ((↑(s.extract H_.toNat s.size).size:Int)<=60);let ax:Out:=.lf O3 (⟨y1.1,s.extract H_.toNat s.size⟩,true,());let Z_:Out:=.lf O3 (⟨y1.1,s.extract H_.toNat s.size⟩,false,());let R_:Out:=.cl CA (s.extract H_.toNat s.size,()) λz3=>.lf O3 (⟨y1.1,s.extract H_.toNat s.size⟩,z3.1,());let aJ:Out:=.br (!y1.1==5) R_ Z_;let M_:Out:=.br aK ax (.br (!true) R_ Z_);let J_:Out:=.br (y1.1==5) (.br aK ax aJ) aJ;.br (decide (y1.1<(y1.2.2.1.length:Int))) (.ix y1.1 y1.2.2.1.length<|.br (decide ((s.size:Int)>=H_)) (.ob bK<|.br ((s.extract 0 H_.toNat).toList==cg.toList) (.ob bK<|.br (y1.1==1) (.lp (Bool) (True) (λx=>True) λy10=>.br (y10) (.lp (Bool) (True) (λx=>True) λy12=>.br (y12) M_ M_) M_) (.lp (Bool) (True) (λx=>True) λy23=>.br (y23) (.lp (Bool) (True) (λx=>True) λy25=>.br (y25) J_ J_) J_)) ar) ar) (.lf O3 (default,false,()))) ?_;refine Aj trivial λ_=>(Aq ?_ λ(y1:fw) i1=>Aa (λh2=>CW ?_ λo3 o4=>Aa (λh5=>Ac ?_ λ_=>Aa (λh7=>Ac ?_ λ_=>Aa (λh9=>Ju trivial λy10 i10=>Aa (λh11=>Ju trivial λy12 i12=>Aa (λh13=>Aa (λh14=>lfY ?_) λh14=>Aa (λh15=>Aj ?_ λ_=>lfY ?_) λh15=>lfY ?_) λh13=>Aa (λh17=>lfY ?_) λh17=>Aa (λh18=>Aj ?_ λ_=>lfY ?_) λh18=>lfY ?_) λh11=>Aa (λh20=>lfY ?_) λh20=>Aa (λh21=>Aj ?_ λ_=>lfY ?_) λh21=>lfY ?_) λh9=>Ju trivial λy23 i23=>Aa (λh24=>Ju trivial λy25 i25=>Aa (λh26=>Aa (λh27=>Aa (λh28=>lfY ?_) λh28=>Aa (λh29=>Aj ?_ λ_=>lfY ?_) λh29=>lfY ?_) λh27=>Aa (λh31=>Aj ?_ λ_=>lfY ?_) λh31=>lfY ?_) λh26=>Aa (λh33=>Aa (λh34=>lfY ?_) λh34=>Aa (λh35=>Aj ?_ λ_=>lfY ?_) λh35=>lfY ?_) λh33=>Aa (λh37=>Aj ?_ λ_=>lfY ?_) λh37=>lfY ?_) λh24=>Aa (λh39=>Aa (λh40=>lfY ?_) λh40=>Aa (λh41=>Aj ?_ λ_=>lfY ?_) λh41=>lfY ?_) λh39=>Aa (λh43=>Aj ?_ λ_=>lfY ?_) λh43=>lfY ?_) λh7=>An<|AR ?_) λh5=>An<|AR ?_) λh2=>lfY ?_)<;>(have k2:∀ a,(s.extract a s.size).size=s.size-a:=λa=>by rw[cZ];omega)<;>(try simp only[AA] at *)<;>(try simp only[std,Nat.reduceAdd] at *)<;>(first|exact⟨o_,o_,rfl⟩|(obtain⟨⟨⟨a1,a2,a3⟩,a4⟩,a5⟩:=i1;simp only[a5,Km,ev,k2] at *))<;>(first|trivial|omega|skip)<;>(try have e:=Abv (s:=s) (l:=words8) (i:=y1.1.toNat) (k:=y1.1) (by rw[Km];omega);rw[a3] at e)<;>(first|(rw[F_ (by rintro⟨q1,q2⟩;first|omega|exact absurd q2 ‹_›)] at e;rw[Aw o_,show(y1.1+1).toNat=y1.1.toNat+1 from o_];exact⟨⟨⟨⟨o_,o_,e.symm⟩,a4⟩,trivial⟩,o_⟩)|skip)<;>(try have e:=YO (s:=s) (l:=words8) (i:=y1.1.toNat) (k:=y1.1) (by rw[Km];omega);rw[a3] at e;rw[e];exact⟨by first|assumption|rfl,rfl⟩)<;>rw[G_ (by exact⟨o_,‹_›⟩)] at e<;>(rw[e];refine⟨rfl,?_⟩)<;>(first|rw[G_ o_]|rw[F_ o_])<;>(first|rfl|(rw[bR o_])|(rw[ey o_])))
def lines8 (l:List ByteArray):List bM:=l.map λw=>(line8 w).1
def allOk8 (l:List ByteArray):Bool:=l.all λw=>(line8 w).2
def parseScript (s:ByteArray):List bM×Bool:=if s=⟨#[]⟩ then([],true) else if(spl 59 s).length<=6/\allOk8 (spl 59 s)=true then(lines8 (spl 59 s),true) else([],false)
abbrev CQ:Fct:=⟨[.v (.el .str)],[.sl .line,.el .bool],λ(x:D_)=>x.1.size<=4200000000,λ(x:D_)=>((parseScript x.1).1,(parseScript x.1).2,())⟩
def Uz {l:List ByteArray} {i:Nat} (h:i<l.length):lines8 (l.take (i+1))=lines8 (l.take i)++[(line8 (l.getD i default)).1]/\allOk8 (l.take (i+1))=(allOk8 (l.take i)&&(line8 (l.getD i default)).2):=by
 rw[P_ h];exact⟨by simp[lines8],by simp[allOk8]⟩
def Acj {l:List ByteArray} {i:Nat} (h:i<l.length) (h2:(line8 (l.getD i default)).2=false):allOk8 l=false:=by
 unfold allOk8;grind
abbrev BG (s:ByteArray):LInv:=⟨[⟨.s,4,true,.sl .line⟩,⟨.s,6,true,.el .int⟩,⟨.s,5,true,.sl .str⟩],λ(z x:fx)=>(0<=x.2.1/\x.2.1<=(spl 59 s).length/\(x.2.1=0\/(spl 59 s).length<=6)/\x.1=lines8 ((spl 59 s).take x.2.1.toNat)/\allOk8 ((spl 59 s).take x.2.1.toNat)=true)/\x.2.2.1=z.2.2.1,λ(x:fx)=>(spl 59 s).length-x.2.1.toNat⟩
def Aod:=Amt.a CQ<|Fct.p (KP [0,2,3,4,5,6,7,8] [11,18,35]) (λ⟨s,_⟩=>lv [(6,BG s)]) Amt.2 func139 (by
 rintro⟨(s:ByteArray),_⟩ hp;refine ho (.br (s.toList==(⟨#[]⟩:ByteArray).toList) (.lf CQ ([],true,())) (.cl Df (s,(59:Int),()) λz2=>lpx (BG s) ([],((0:Int),(z2.1,()))) λ(y3:fx) bk3=>.br (decide (y3.2.1<(y3.2.2.1.length:Int))) (.ix y3.2.1 y3.2.2.1.length<|.cl O3 (y3.2.2.1.getD y3.2.1.toNat default,()) λz3=>.br (!z3.2.1) (.lf CQ ([],false,())) (.br (decide ((y3.2.2.1.length:Int)>6)) (.lf CQ ([],false,())) (.ap (y3.1.length+[z3.1].length) 24<|.re (Value.string s)<|.bk (bk3 (y3.1++[z3.1],(w1 y3.2.1,(y3.2.2.1,()))))))) (.lf CQ (y3.1,true,())))) ?_;refine Aa (λh1=>lfY ?_) λh1=>Aj ?_ λ_=>Aq ?_ λ(y3:fx) i3=>Aa (λh4=>CW ?_ λo5 o6=>Aj ?_ λ_=>Aa (λh8=>lfY ?_) λh8=>Aa (λh9=>lfY ?_) λh9=>EG ?_ λ_=>An<|AR ?_) λh4=>lfY ?_;all_goals
  have hk:=Fy 59 s;have hm:∀ i,i<(spl 59 s).length->((spl 59 s).getD i default).size<=s.size:=λi h=>Rc (Ae h)
  have hp1:s.size<=4200000000:=hp;try simp only[AA] at *
  try simp only[std,Nat.reduceAdd,show UInt8.ofNat (Int.toNat 59)=59 from rfl] at *
 all_goals (first|trivial|omega|(unfold parseScript;rw[G_ ‹_›];exact⟨rfl,rfl⟩)|exact⟨o_,o_,.inl (by trivial),rfl,rfl⟩|exact⟨o_,by decide,by decide⟩|(obtain⟨⟨a1,a2,a3,a4,a5⟩,a6⟩:=i3;simp only[a6] at *))<;>(try have hl:y3.1.length<=(spl 59 s).length:=by rw[a4,lines8,cC,cX];omega)<;>(first|trivial|omega|(have:=hm y3.2.1.toNat o_;omega)|skip)<;>(first|(unfold parseScript;rw[F_ ‹_›,F_ (by rintro⟨q1,q2⟩;rw[Acj (i:=y3.2.1.toNat) o_ ‹_›] at q2;cases q2)];exact⟨rfl,rfl⟩)|(unfold parseScript;rw[F_ ‹_›,F_ o_];exact⟨rfl,rfl⟩)|skip)<;>(first|(rw[ci (l:=spl 59 s) (i:=y3.2.1.toNat) o_] at a4 a5;unfold parseScript;rw[F_ ‹_›,G_ (by exact⟨o_,a5⟩)];exact⟨a4,rfl⟩)|skip)<;>(first|(have e:=Uz (l:=spl 59 s) (i:=y3.2.1.toNat) o_;rw[Aw o_,show(y3.2.1+1).toNat=y3.2.1.toNat+1 from o_];refine⟨⟨⟨o_,o_,.inr o_,by rw[e.1,a4],by rw[e.2,a5];assumption⟩,by first|assumption|trivial⟩,o_⟩)|skip))
def mk8 (x:UInt8):UInt8:=if x=91 then 60 else if x=93 then 62 else x
def markup (s:ByteArray):ByteArray:=ofL ((toL s).map mk8)
abbrev enc8 (x:UInt8):Value:=.int .u8 (x.toNat:Int)
abbrev TP:Fct:=⟨[aT],[rT],λx=>x.1.size<=1000000000000,λx=>(markup x.1,())⟩
open Go.RowKit Go.Lib Go.Sort in
def Vc (w:World) (e:TypeId) (s:ByteArray):Holds enc8 (bytesWorld w e s) w.heap.size 0 s.data:=by
 intro j hj;have hn:=bytesWorld_at_new w e s;refine⟨?_,?_⟩
 ·simp only[World.cell?,cE,hn];have:(Lib.bytesCells w e s)[j]? = some (.int .u8 s.data[j].toNat):=by unfold Lib.bytesCells;grind
  grind
 ·have h2:j<(bytesCells w e s).size:=by unfold Lib.bytesCells;rw[Array.size_append,Array.size_map];omega
  simp[World.frozen?,hn];omega
open Go.RowKit Go.Lib Go.Sort in
def LM {s:ByteArray} {dk:Array UInt8} {i:Nat} {y:UInt8} (hi:i<s.size) (hs:dk.size=s.data.size) (hd:∀ t,t<s.size->dk[t]! = if t<i then mk8 s.data[t]! else s.data[t]!) (hy:y=mk8 s.data[i]!) :
 (dk.setIfInBounds i y).size=s.data.size/\∀ t,t<s.size->(dk.setIfInBounds i y)[t]! = if t<i+1 then mk8 s.data[t]! else s.data[t]!:=by
 have hsz:s.data.size=s.size:=rfl;refine⟨by rw[Array.size_setIfInBounds];exact hs,λt ht=>?_⟩;by_cases h:t=i
 ·subst h;rw[getElem!_set_same _ _ _ o_,G_ o_,hy]
 ·rw[getElem!_pos _ t (by rw[Array.size_setIfInBounds];omega),Array.getElem_setIfInBounds o_,F_ λe=>h e.symm,<-getElem!_pos dk t o_,hd t ht];by_cases h2:t<i
  ·rw[G_ h2,G_ o_]
  ·rw[F_ h2,F_ o_]
open Go.RowKit Go.Lib Go.Sort in
def AfE {s:ByteArray} {dk:Array UInt8} {i:Nat} (hi:i<s.size) (hs:dk.size=s.data.size) (hd:∀ t,t<s.size->dk[t]! = if t<i then mk8 s.data[t]! else s.data[t]!) (hy:s.data[i]! = mk8 s.data[i]!) :
 ∀ t,t<s.size->dk[t]! = if t<i+1 then mk8 s.data[t]! else s.data[t]!:=by
 intro t ht;rw[hd t ht];by_cases h:t=i
 ·subst h;rw[F_ (Nat.lt_irrefl _),G_ o_,<-hy]
 ·by_cases h2:t<i
  ·rw[G_ h2,G_ o_]
  ·rw[F_ h2,F_ o_]
def AjF {x:UInt8} (h:((x.toNat:Int)==91)=true):60=mk8 x:=by
 have:x=91:=by apply UInt8.toNat_inj.1;have:=cY.1 h;exact Int.ofNat.inj this
 subst this;rfl
def AkK {x:UInt8} (h:((x.toNat:Int)==91)=false) (h2:((x.toNat:Int)==93)=true):62=mk8 x:=by
 have:x=93:=by apply UInt8.toNat_inj.1;have:=cY.1 h2;exact Int.ofNat.inj this
 subst this;rfl
def Alp {x:UInt8} (h:((x.toNat:Int)==91)=false) (h2:((x.toNat:Int)==93)=false):x=mk8 x:=by
 unfold mk8;rw[F_ (by rintro rfl;cases h),F_ (by rintro rfl;cases h2)]
open Go.RowKit Go.Lib Go.Sort in
def Uj (s:ByteArray) (hs1:s.size<=1000000000000) (w:World):Calls Tryz.prog 214 #[.string s] w λe w'=>e=.returned (.string (markup s))/\∃ dk,dk.size=s.data.size/\w'=putRow enc8 (bytesWorld w 5 s) w.heap.size 0 dk:=by
 have hcv:=λ(w:World)=>Lib.run_convert_string_bytes w 9 22 5 s Tryz.underlying9 Tryz.underlying22 Tryz.underlying5
 have hH:=Vc w 5 s;have hsz:s.data.size=s.size:=rfl
 go_enter func214,Tryz.ntmps214
 go_wp2
 generalize hW1:bytesWorld w 5 s=W1 at *
 go_loopw [4] (λvi wr=>∃ (i:Nat) (dk:Array UInt8),vi=.int .i64 i/\i<=s.size/\dk.size=s.data.size/\wr=putRow enc8 W1 w.heap.size 0 dk/\(∀ t,t<s.size->dk[t]! = if t<i then mk8 s.data[t]! else s.data[t]!)) (λvi _=>s.size+1-(RowKit.intOf vi).toNat)
 case atStart=>exact⟨0,s.data,rfl,o_,rfl,(putRow_self _ _ _ _ _ hH).symm,λt ht=>by rw[F_ o_]⟩
 case round=>
  obtain⟨i,dk,rfl,hi,hsk,hw,hd⟩:=hrel;by_cases h1:i<s.size
  ·have hcd:=cell?_putRow enc8 W1 w.heap.size 0 s.data dk hH hsk i o_;have hfz:wr.frozen? ⟨w.heap.size,0+i,none⟩=false:=by rw[hw,frozen?_putRow];exact(hH i o_).2
   rw[<-hw,cE] at hcd;rw[cE] at hfz;have hxi:=hd i h1;rw[F_ (Nat.lt_irrefl _)] at hxi;rw[hxi] at hcd;generalize hx:s.data[i]! = x at *
   dsimp only[enc8] at hcd;have hst:=λy=>putRow_set enc8 W1 w.heap.size 0 dk i y o_
   rw[cE] at hst;have hW:Hid (wr=putRow enc8 W1 w.heap.size 0 dk):=hw;have hD:Hid (∀ t,t<s.size->dk[t]! = if t<i then mk8 s.data[t]! else s.data[t]!):=hd;have hS:Hid (∀ y,(putRow enc8 W1 w.heap.size 0 dk).setCell ⟨w.heap.size,i,none⟩ (enc8 y)=putRow enc8 W1 w.heap.size 0 (dk.setIfInBounds i y)):=hst;clear hw hd hst hH hxi
   go_wp2
   case roundEnd=>
    exact⟨⟨i+1,dk.setIfInBounds i 60,rfl,h1,(LM h1 hsk hD.out (by rw[hx];exact AjF ‹_›)).1,by rw[hW.out];exact hS.out 60,(LM h1 hsk hD.out (by rw[hx];exact AjF ‹_›)).2⟩,by simp only[RowKit.intOf];omega⟩
   case roundEnd=>
    exact⟨⟨i+1,dk.setIfInBounds i 62,rfl,h1,(LM h1 hsk hD.out (by rw[hx];exact AkK ‹_› ‹_›)).1,by rw[hW.out];exact hS.out 62,(LM h1 hsk hD.out (by rw[hx];exact AkK ‹_› ‹_›)).2⟩,by simp only[RowKit.intOf];omega⟩
   case roundEnd=>
    exact⟨⟨i+1,dk,rfl,h1,hsk,hW.out,AfE h1 hsk hD.out (by rw[hx];exact Alp ‹_› ‹_›)⟩,by simp only[RowKit.intOf];omega⟩
  ·have hie:i=s.size:=o_
   subst hie;have hback:=run_convert_bytes_back (P:=Tryz.prog) wr 22 9 5 ⟨w.heap.size,0,none⟩ (grownCap w s.size 0 5) dk.toList Tryz.underlying22 Tryz.underlying5 Tryz.underlying9 (λj hj=>by
    have hj2:j<dk.size:=by simpa using hj
    have:=cell?_putRow enc8 W1 w.heap.size 0 s.data dk hH hsk j hj2;rw[<-hw] at this;rw[Addr.add_lit,this];simp[getElem!_pos dk j hj2])
   have hl:dk.toList.length=s.size:=by simpa using hsk
   rw[hl,hw] at hback;have hfin:markup s=⟨dk.toList.toArray⟩:=by
    unfold markup ofL;congr 2;apply List.ext_getElem (by simp[AN,hl]);intro k h2 h3;have hk:k<s.size:=o_
    have:=hd k hk;rw[G_ hk,getElem!_pos dk k o_,getElem!_pos s.data k hk] at this;simp[toL,this]
   have hfin:Hid _:=hfin;have hw:Hid _:=hw
   go_wp2
   go_ret
   exact⟨by rw[hfin.out];simp,dk,hsk,by rw[hW1];first|done|exact hw.out⟩
open Go.RowKit Go.Lib Go.Sort in
def Xi (w:World) (e:TypeId) (s:ByteArray) (f:Array Value->Array Value):mapBlock (bytesWorld w e s) w.heap.size f=grow (w.drewN 1) #[onCells f (.cells (bytesCells w e s) e ((bytesCells w e s).size,(bytesCells w e s).size+1))]:=by
 have hn:=bytesWorld_at_new w e s;have hz:=bytesWorld_size w e s;have ho:=bytesWorld_at_old w e s;have hh:(bytesWorld w e s).heap.modify w.heap.size (onCells f)=w.heap ++ #[onCells f (.cells (bytesCells w e s) e ((bytesCells w e s).size,(bytesCells w e s).size+1))]:=by grind
 unfold mapBlock grow;rw[hh];rfl
open Go.RowKit Go.Lib Go.Sort in
def YW:TP.ok Tryz.prog 214 :=
 Akd rfl rfl λx hx w ow hB=>(Uj x.1 hx w).mono λe w' ⟨a,dk,hs,b⟩=>⟨a,1,_,b.trans (Xi w 5 x.1 _)⟩
def AnU:=Aod.a TP<|YW
def runLine (b:aj) (l:List bA) (x:bM):aj×ByteArray×ByteArray :=
 if x.op=1 then(b,markup x.text,⟨#[]⟩)
 else if x.op=2 then((if 1<=b.bj.length/\b.bj.length<=39/\isName x.text=true then⟨b.bj++[⟨x.text,⟨#[]⟩,0,[]⟩],b.bn⟩ else b),⟨#[]⟩,⟨#[]⟩)
 else if x.op=3 then(b,⟨#[]⟩,⟨#[99,111,117,110,116,32]⟩++x.text++⟨#[32]⟩++R0 (countName x.text b.bj))
 else if x.op=4 then(b,⟨#[]⟩,⟨#[108,111,111,107,32]⟩++x.text++⟨#[32]⟩++R0 (colorOf l x.text))
 else if x.op=5 then(b,⟨#[]⟩,⟨#[115,97,121,32]⟩++x.text)
 else(b,⟨#[]⟩,⟨#[]⟩)
def okSheets (l:List bA):Prop:=∀ s,s∈l->∀ r,r∈s.rules->-9223372036854775808<=r.color/\r.color<=9223372036854775807
def Ac2 {n:ByteArray} {rs:List dE} {z:Int} (hz : -9223372036854775808<=z/\z<=9223372036854775807) (h:∀ r,r∈rs->-9223372036854775808<=r.color/\r.color<=9223372036854775807):∀ m,m<=rs.length->-9223372036854775808<=colR n rs z m/\colR n rs z m<=9223372036854775807
 | 0,_=>hz
 | m+1,hm=>by
  rw[colR];split
  ·grind
  ·exact Ac2 hz h m o_
def Zr {n:ByteArray} {l:List bA} (h:okSheets l):∀ m,m<=l.length->-9223372036854775808<=colS n l m/\colS n l m<=9223372036854775807
 | 0,_=>by rw[colS];decide
 | m+1,hm=>by rw[colS];exact Ac2 (Zr h m o_) (h _ (Ae o_)) _ (Y_ _)
def OC {l:List bA} (h:okSheets l) (n:ByteArray) : -9223372036854775808<=colorOf l n/\colorOf l n<=9223372036854775807:=Zr h _ (Y_ _)
def Lo (n:ByteArray) (l:List cP):0<=countName n l/\countName n l<=l.length:=by unfold countName;have:=IB (λx:cP=>decide (x.name=n)) l;omega
abbrev A8:Fct:=⟨[.v (.el .ba),.v (.sl .sheet),.v (.el .line)],[.el .ba,.el .str,.el .str],λ(x:gR)=>szBuilder x.1<=100000000000/\szL Eh x.2.1<=100000000000/\x.2.2.1.text.size<=1000000000/\okSheets x.2.1,λ(x:gR)=>((runLine x.1 x.2.1 x.2.2.1).1,(runLine x.1 x.2.1 x.2.2.1).2.1,(runLine x.1 x.2.1 x.2.2.1).2.2,())⟩
def Ann:=AnU.a A8<|Fct.o (KP [1,3,5,6,7,8,9,13] [14,20,30,40,53,66]) AnU.2 func186 (by
 rintro⟨(b:aj),(l:List bA),(x:bM),_⟩ hp;refine ho (let Z_:=(⟨#[115,97,121,32]⟩:ByteArray);let R_:=(⟨#[]⟩:ByteArray);let M_:=(⟨#[32]⟩:ByteArray);let J_:=(⟨#[108,111,111,107,32]⟩:ByteArray);let H_:=(⟨#[99,111,117,110,116,32]⟩:ByteArray);.cl Dt (b,()) λz2=>let ar:Out:=.lf A8 (z2.1,R_,R_,());.br (x.op==1) (.cl TP (x.text,()) λz3=>.lf A8 (z2.1,z3.1,R_,())) (.br (x.op==2) (.cl AC ((b.bj.length:Int),(1:Int),(39:Int),()) λz4=>.br (z4.1) (.cl CA (x.text,()) λz5=>.br (z5.1) (.ob (IJ (z2.1.bj.length+[(⟨x.text,R_,(0:Int),[]⟩:cP)].length) 64)<|.lf A8 (⟨z2.1.bj++[(⟨x.text,R_,(0:Int),[]⟩:cP)],z2.1.bn⟩,R_,R_,())) ar) ar) (.br (x.op==3) (.lp (Bool) (True) (λx=>True) λy10=>.br (y10) (.lp (Bool) (True) (λx=>True) λy12=>.br (y12) (.lp (Bool) (True) (λx=>True) λy14=>.br (y14) (.lp (Bool) (True) (λx=>True) λy16=>.br (y16) (.lp (Bool) (True) (λx=>True) λy18=>.br (y18) (.ob (sameSize H_ x.text)<|.ob (sameSize (H_++x.text) M_)<|.cl Dv (b,x.text,()) λ(z6:E_)=>.cl AL (z6.1,()) λz7=>.ob (sameSize (H_++x.text++M_) z7.1)<|.lf A8 (z2.1,R_,H_++x.text++M_++z7.1,())) (.ob (sameSize H_ x.text)<|.ob (sameSize (H_++x.text) M_)<|.cl Dv (b,x.text,()) λ(z8:E_)=>.cl AL (z8.1,()) λz9=>.ob (sameSize (H_++x.text++M_) z9.1)<|.lf A8 (z2.1,R_,H_++x.text++M_++z9.1,()))) (.ob (sameSize H_ x.text)<|.cl Dv (b,x.text,()) λ(z10:E_)=>.cl AL (z10.1,()) λz11=>.ob (sameSize (H_++x.text) M_)<|.ob (sameSize (H_++x.text++M_) z11.1)<|.lf A8 (z2.1,R_,H_++x.text++M_++z11.1,()))) (.cl Dv (b,x.text,()) λ(z12:E_)=>.cl AL (z12.1,()) λz13=>.ob (sameSize H_ x.text)<|.ob (sameSize (H_++x.text) M_)<|.ob (sameSize (H_++x.text++M_) z13.1)<|.lf A8 (z2.1,R_,H_++x.text++M_++z13.1,()))) (.cl Dv (b,x.text,()) λ(z14:E_)=>.cl AL (z14.1,()) λz15=>.ob (sameSize H_ x.text)<|.ob (sameSize (H_++x.text) M_)<|.ob (sameSize (H_++x.text++M_) z15.1)<|.lf A8 (z2.1,R_,H_++x.text++M_++z15.1,()))) (.cl Dv (b,x.text,()) λ(z16:E_)=>.cl AL (z16.1,()) λz17=>.ob (sameSize H_ x.text)<|.ob (sameSize (H_++x.text) M_)<|.ob (sameSize (H_++x.text++M_) z17.1)<|.lf A8 (z2.1,R_,H_++x.text++M_++z17.1,()))) (.br (x.op==4) (.lp (Bool) (True) (λx=>True) λy51=>.br (y51) (.lp (Bool) (True) (λx=>True) λy53=>.br (y53) (.lp (Bool) (True) (λx=>True) λy55=>.br (y55) (.lp (Bool) (True) (λx=>True) λy57=>.br (y57) (.lp (Bool) (True) (λx=>True) λy59=>.br (y59) (.ob (sameSize J_ x.text)<|.ob (sameSize (J_++x.text) M_)<|.cl EN (l,x.text,()) λ(z18:E_)=>.cl AL (z18.1,()) λz19=>.ob (sameSize (J_++x.text++M_) z19.1)<|.lf A8 (z2.1,R_,J_++x.text++M_++z19.1,())) (.ob (sameSize J_ x.text)<|.ob (sameSize (J_++x.text) M_)<|.cl EN (l,x.text,()) λ(z20:E_)=>.cl AL (z20.1,()) λz21=>.ob (sameSize (J_++x.text++M_) z21.1)<|.lf A8 (z2.1,R_,J_++x.text++M_++z21.1,()))) (.ob (sameSize J_ x.text)<|.cl EN (l,x.text,()) λ(z22:E_)=>.cl AL (z22.1,()) λz23=>.ob (sameSize (J_++x.text) M_)<|.ob (sameSize (J_++x.text++M_) z23.1)<|.lf A8 (z2.1,R_,J_++x.text++M_++z23.1,()))) (.cl EN (l,x.text,()) λ(z24:E_)=>.cl AL (z24.1,()) λz25=>.ob (sameSize J_ x.text)<|.ob (sameSize (J_++x.text) M_)<|.ob (sameSize (J_++x.text++M_) z25.1)<|.lf A8 (z2.1,R_,J_++x.text++M_++z25.1,()))) (.cl EN (l,x.text,()) λ(z26:E_)=>.cl AL (z26.1,()) λz27=>.ob (sameSize J_ x.text)<|.ob (sameSize (J_++x.text) M_)<|.ob (sameSize (J_++x.text++M_) z27.1)<|.lf A8 (z2.1,R_,J_++x.text++M_++z27.1,()))) (.cl EN (l,x.text,()) λ(z28:E_)=>.cl AL (z28.1,()) λz29=>.ob (sameSize J_ x.text)<|.ob (sameSize (J_++x.text) M_)<|.ob (sameSize (J_++x.text++M_) z29.1)<|.lf A8 (z2.1,R_,J_++x.text++M_++z29.1,()))) (.br (x.op==5) (.lp (Bool) (True) (λx=>True) λy92=>.br (y92) (.lp (Bool) (True) (λx=>True) λy94=>.br (y94) (.lp (Bool) (True) (λx=>True) λy96=>.br (y96) (.ob (sameSize Z_ x.text)<|.lf A8 (z2.1,R_,Z_++x.text,())) (.ob (sameSize Z_ x.text)<|.lf A8 (z2.1,R_,Z_++x.text,()))) (.ob (sameSize Z_ x.text)<|.lf A8 (z2.1,R_,Z_++x.text,()))) (.ob (sameSize Z_ x.text)<|.lf A8 (z2.1,R_,Z_++x.text,()))) ar))))) ?_;refine Aj ?_ λ_=>(Aa (λh2=>Aj ?_ λ_=>lfY ?_) λh2=>Aa (λh4=>Aj trivial λ_=>Aa (λh5=>Aj ?_ λ_=>Aa (λh7=>Ac ?_ λ_=>lfY ?_) λh7=>lfY ?_) λh5=>lfY ?_) λh4=>Aa (λh9=>Ju trivial λy10 i10=>Aa (λh11=>Ju trivial λy12 i12=>Aa (λh13=>Ju trivial λy14 i14=>Aa (λh15=>Ju trivial λy16 i16=>Aa (λh17=>Ju trivial λy18 i18=>Aa (λh19=>Ac ?_ λ_=>Ac ?_ λ_=>Aj ?_ λ_=>Aj ?_ λ_=>Ac ?_ λ_=>lfY ?_) λh19=>Ac ?_ λ_=>Ac ?_ λ_=>Aj ?_ λ_=>Aj ?_ λ_=>Ac ?_ λ_=>lfY ?_) λh17=>Ac ?_ λ_=>Aj ?_ λ_=>Aj ?_ λ_=>Ac ?_ λ_=>Ac ?_ λ_=>lfY ?_) λh15=>Aj ?_ λ_=>Aj ?_ λ_=>Ac ?_ λ_=>Ac ?_ λ_=>Ac ?_ λ_=>lfY ?_) λh13=>Aj ?_ λ_=>Aj ?_ λ_=>Ac ?_ λ_=>Ac ?_ λ_=>Ac ?_ λ_=>lfY ?_) λh11=>Aj ?_ λ_=>Aj ?_ λ_=>Ac ?_ λ_=>Ac ?_ λ_=>Ac ?_ λ_=>lfY ?_) λh9=>Aa (λh50=>Ju trivial λy51 i51=>Aa (λh52=>Ju trivial λy53 i53=>Aa (λh54=>Ju trivial λy55 i55=>Aa (λh56=>Ju trivial λy57 i57=>Aa (λh58=>Ju trivial λy59 i59=>Aa (λh60=>Ac ?_ λ_=>Ac ?_ λ_=>Aj ?_ λ_=>Aj ?_ λ_=>Ac ?_ λ_=>lfY ?_) λh60=>Ac ?_ λ_=>Ac ?_ λ_=>Aj ?_ λ_=>Aj ?_ λ_=>Ac ?_ λ_=>lfY ?_) λh58=>Ac ?_ λ_=>Aj ?_ λ_=>Aj ?_ λ_=>Ac ?_ λ_=>Ac ?_ λ_=>lfY ?_) λh56=>Aj ?_ λ_=>Aj ?_ λ_=>Ac ?_ λ_=>Ac ?_ λ_=>Ac ?_ λ_=>lfY ?_) λh54=>Aj ?_ λ_=>Aj ?_ λ_=>Ac ?_ λ_=>Ac ?_ λ_=>Ac ?_ λ_=>lfY ?_) λh52=>Aj ?_ λ_=>Aj ?_ λ_=>Ac ?_ λ_=>Ac ?_ λ_=>Ac ?_ λ_=>lfY ?_) λh50=>Aa (λh91=>Ju trivial λy92 i92=>Aa (λh93=>Ju trivial λy94 i94=>Aa (λh95=>Ju trivial λy96 i96=>Aa (λh97=>Ac ?_ λ_=>lfY ?_) λh97=>Ac ?_ λ_=>lfY ?_) λh95=>Ac ?_ λ_=>lfY ?_) λh93=>Ac ?_ λ_=>lfY ?_) λh91=>lfY ?_)<;>(have hl:=Ad AF b.bj;have hb:szL AF b.bj<=szBuilder b:=by simp only[szBuilder];omega)<;>(have hc:=Lo x.text b.bj;have hx:=OC hp.2.2.2 x.text;have hf:=λ(n:Int) (h0 : -9223372036854775808<=n) (h1:n<=9223372036854775807)=>MV h0 h1)<;>(try simp only[AA] at *)<;>(try simp only[std,Nat.reduceAdd,runLine,inRange,sameSize,aN] at *)<;>(try simp(disch:=omega) only[A_,C_] at *)<;>(try simp(disch:=omega) only[G_,F_])<;>(first|trivial|omega|grind[A_,C_,B_,K_,I_,maxLen,runLine,inRange,sameSize,ByteArray.size_append]))
def runLines (l:List bA):List bM->aj->ByteArray->List ByteArray->aj×ByteArray×List ByteArray
 | [],b,w,g=>(b,w,g)
 | x::r,b,w,g=>runLines l r (runLine b l x).1 (w++(runLine b l x).2.1) (if(runLine b l x).2.2=⟨#[]⟩ then g else g++[(runLine b l x).2.2])
theorem cS {l:List bA} {r:List bM} {i:Nat} {b:aj} {w:ByteArray} {g:List ByteArray} (h:i<r.length):runLines l (r.drop i) b w g=runLines l (r.drop (i+1)) (runLine b l (r.getD i default)).1 (w++(runLine b l (r.getD i default)).2.1) (if(runLine b l (r.getD i default)).2.2=⟨#[]⟩ then g else g++[(runLine b l (r.getD i default)).2.2]):=by rw[B_ h];rfl
theorem cJ {l:List bA} {r:List bM} {i:Nat} {b:aj} {w:ByteArray} {g:List ByteArray} (h:r.length<=i):runLines l (r.drop i) b w g=(b,w,g):=by rw[bQ h];rfl
def OF (b:aj) (l:List bA) (x:bM):szBuilder (runLine b l x).1<=szBuilder b+x.text.size+1/\(runLine b l x).2.1.size<=x.text.size:=by
 have h0:ByteArray.size ⟨#[]⟩=0:=rfl;have h1:(markup x.text).size=x.text.size:=by unfold markup;rw[Dd,cC,AN]
 have h3:szL BH []=0:=rfl;unfold runLine;repeat' split
 all_goals simp only[h0,h1,szBuilder,EU,AF,h3]<;>omega
def runScript (b:aj) (l:List bA) (r:List bM):aj×ByteArray×List ByteArray:=runLines l r b ⟨#[]⟩ []
abbrev Ib:Fct:=⟨[.v (.el .ba),.v (.sl .sheet),.v (.sl .line)],[.el .ba,.el .str,.sl .str],λ(x:gS)=>szBuilder x.1<=50000000000/\szL Eh x.2.1<=100000000000/\szL Ea x.2.2.1<=1000000000/\okSheets x.2.1,λ(x:gS)=>((runScript x.1 x.2.1 x.2.2.1).1,(runScript x.1 x.2.1 x.2.2.1).2.1,(runScript x.1 x.2.1 x.2.2.1).2.2,())⟩
abbrev Ch (b:aj) (l:(List bA)) (r:(List bM)):LInv:=⟨[⟨.b,9,true,.el .ba⟩,⟨.s,10,true,.el .str⟩,⟨.s,11,true,.sl .str⟩,⟨.s,12,true,.el .int⟩,⟨.b,6,true,.el .ba⟩],λ(z x:fy)=>(0<=x.2.2.2.1/\x.2.2.2.1<=r.length/\szBuilder x.1+szL Ea (r.drop x.2.2.2.1.toNat)<=szBuilder b+szL Ea r/\x.2.1.size+szL Ea (r.drop x.2.2.2.1.toNat)<=szL Ea r/\x.2.2.1.length<=x.2.2.2.1/\runLines l (r.drop x.2.2.2.1.toNat) x.1 x.2.1 x.2.2.1=runScript b l r)/\x.2.2.2.2.1=z.2.2.2.2.1,λ(x:fy)=>r.length-x.2.2.2.1.toNat⟩
def Am5:=Ann.a Ib<|Fct.p (KP [1,2,3,6,7,8,9,10,11,12,13,14,15] [22,41]) (λ⟨b,l,r,_⟩=>lv [(5,Ch b l r)]) Ann.2 func140 (by
 rintro⟨(b:aj),(l:List bA),(r:List bM),_⟩ hp;refine ho (.cl Dt (b,()) λz2=>lpx (Ch b l r) (z2.1,((⟨#[]⟩:ByteArray),([],((0:Int),(default,()))))) λ(y2:fy) bk2=>.br (decide (y2.2.2.2.1<(r.length:Int))) (.ob (inB y2.2.2.2.1 r.length)<|.cl A8 (y2.1,l,r.getD y2.2.2.2.1.toNat default,()) λz3=>.ob (sameSize y2.2.1 z3.2.1)<|.br (!z3.2.2.1.toList==(⟨#[]⟩:ByteArray).toList) (.ap (y2.2.2.1.length+[z3.2.2.1].length) 16<|.re (l)<|.re (r)<|.re (Value.string (⟨#[]⟩:ByteArray))<|.bk (bk2 (z3.1,(y2.2.1++z3.2.1,(y2.2.2.1++[z3.2.2.1],(w1 y2.2.2.2.1,(y2.2.2.2.2.1,()))))))) (.re (l)<|.re (r)<|.re (Value.string (⟨#[]⟩:ByteArray))<|.bk (bk2 (z3.1,(y2.2.1++z3.2.1,(y2.2.2.1,(w1 y2.2.2.2.1,(y2.2.2.2.2.1,())))))))) (.lf Ib (y2.1,y2.2.1,y2.2.2.1,()))) ?_;refine Aj ?_ λ_=>(Aq ?_ λ(y2:fy) i2=>Aa (λh3=>Ac ?_ λ_=>Aj ?_ λ_=>Ac ?_ λ_=>Aa (λh7=>EG ?_ λ_=>An<|An<|An<|AR ?_) λh7=>An<|An<|An<|AR ?_) λh3=>lfY ?_)<;>(have hr:=Ad Ea r;have hx:∀ i,i<r.length->szL Ea (r.drop i)=(r.getD i default).text.size+1+szL Ea (r.drop (i+1)):=λi h=>WV Ea h)<;>have hs:=λbb x=>OF bb l x<;>(have hrs:runLines l r b ⟨#[]⟩ []=runScript b l r:=rfl;try simp only[AA] at *)<;>(try simp only[std,Nat.reduceAdd,cS,cJ,sameSize,aN] at *)<;>(try simp(disch:=omega) only[A_,C_] at *)<;>(try simp(disch:=omega) only[G_,F_])<;>(first|trivial|omega|grind[A_,C_,B_,K_,I_,maxLen,cS,cJ,sameSize,ByteArray.size_append]))
def decV:List UInt8->Int->Int
 | [],n=>n
 | x::l,n=>decV l (10*n+((x.toNat:Int)-48))
def digit (x:UInt8):Bool:=decide (48<=(x.toNat:Int)/\(x.toNat:Int)<=57)
def parseInt (s:ByteArray):Int×Bool:=if 1<=s.size/\s.size<=13/\(toL s).all digit=true/\decV (toL s) 0<=1000000000000/\R0 (decV (toL s) 0)=s then(decV (toL s) 0,true) else(0,false)
abbrev J2:Fct:=⟨[.v (.el .str)],[.el .int,.el .bool],λ(x:D_)=>x.1.size<=1000000000000,λ(x:D_)=>((parseInt x.1).1,(parseInt x.1).2,())⟩
def WB {s:ByteArray} {i:Nat} (h:i<s.size):(toL s).take (i+1)=(toL s).take i++[s.data.getD i 0]:=by
 have h2:i<s.data.size:=h;have e:s.data.getD i 0=s.data[i]:=by unfold Array.getD;rw[dif_pos h2];rfl
 rw[List.take_succ_eq_append_getElem (by rw[AN];exact h),e];rfl
def R7:∀ (l:List UInt8) (x:UInt8) (n:Int),decV (l++[x]) n=10*decV l n+((x.toNat:Int)-48)
 | [],x,n=>rfl
 | y::l,x,n=>by rw[cj,decV,decV,R7 l]
def AlS:∀ i:Nat,i<=13->(10:Int) ^ i<=10000000000000:=λi h=>(by decide:∀ i:Fin 14,(10:Int) ^ i.val<=10000000000000) ⟨i,o_⟩
def Zu {s:ByteArray} {i:Nat} (h:i<s.size) (hd:digit (s.data.getD i 0)=false):(toL s).all digit=false:=by
 rw[List.all_eq_false];refine⟨s.data.getD i 0,?_,by rw[hd];decide⟩;have:=fH (l:=toL s) (i:=i+1) (a:=s.data.getD i 0) (by rw[WB h];simp);exact this
def Jb {s:ByteArray} (h:¬ (1<=s.size/\s.size<=13/\(toL s).all digit=true/\decV (toL s) 0<=1000000000000/\R0 (decV (toL s) 0)=s)):0=(parseInt s).1/\false=(parseInt s).2:=by
 unfold parseInt;rw[F_ h];exact⟨rfl,rfl⟩
def RC {s:ByteArray} (h:1<=s.size/\s.size<=13/\(toL s).all digit=true/\decV (toL s) 0<=1000000000000/\R0 (decV (toL s) 0)=s):decV (toL s) 0=(parseInt s).1/\true=(parseInt s).2:=by
 unfold parseInt;rw[G_ h];exact⟨rfl,rfl⟩
def u8_in (x:UInt8):IntKind.i64.wrap (x.toNat:Int)=x.toNat/\(x.toNat:Int)<=255:=by
 have:=x.toNat_lt;exact⟨A_ o_ o_,o_⟩
def AaZ {x:UInt8} (h:48<=(x.toNat:Int)):IntKind.i64.wrap (IntKind.u8.wrap ((x.toNat:Int)-48))=(x.toNat:Int)-48:=by
 have:=x.toNat_lt;have e:IntKind.u8.wrap ((x.toNat:Int)-48)=(x.toNat:Int)-48:=by show((x.toNat:Int)-48) % 256=_;omega
 rw[e];exact A_ o_ o_
abbrev Cz (s:ByteArray):LInv:=⟨[⟨.s,4,true,.el .int⟩,⟨.s,5,true,.el .int⟩],λ_ (x:bI)=>0<=x.2.1/\x.2.1<=s.size/\0<=x.1/\x.1<10 ^ x.2.1.toNat/\((toL s).take x.2.1.toNat).all digit=true/\x.1=decV ((toL s).take x.2.1.toNat) 0,λ(x:bI)=>s.size-x.2.1.toNat⟩
def AnF:=Am5.a J2<|Fct.p (KP [0,2,3,4,5] [9,13,21,37]) (λ⟨s,_⟩=>lv [(5,Cz s)]) Am5.2 func217 (by
 rintro⟨(s:ByteArray),_⟩ hp;refine ho (let J_:=(s.size:Int);let H_:Out:=.lf J2 ((0:Int),false,());.cl AC (J_,(1:Int),(13:Int),()) λz2=>.br (!z2.1) H_ (lpx (Cz s) ((0:Int),((0:Int),())) λ(y2:bI) bk2=>let R_:=0<=y2.2.1/\y2.2.1<J_;let M_:=(↑(s.data.getD y2.2.1.toNat 0).toNat:Int);.br (decide (y2.2.1<J_)) (.ob R_<|.cl AC (wr M_,(48:Int),(57:Int),()) λz3=>.br (!z3.1) H_ (.ob R_<|.re (Value.string s)<|.bk (bk2 (wr (wr ((10:Int)*y2.1)+wr (IntKind.u8.wrap (M_-(48:Int)))),(w1 y2.2.1,()))))) (.br (decide (y2.1>1000000000000)) H_ (.cl AL (y2.1,()) λz4=>.br (!z4.1.toList==s.toList) H_ (.lf J2 (y2.1,true,())))))) ?_;refine Aj trivial λ_=>(Aa (λh1=>lfY ?_) λh1=>Aq ?_ λ(y2:bI) i2=>Aa (λh3=>Ac ?_ λ_=>Aj trivial λ_=>Aa (λh5=>lfY ?_) λh5=>Ac ?_ λ_=>An<|AR ?_) λh3=>Aa (λh8=>lfY ?_) λh8=>Aj ?_ λ_=>Aa (λh10=>lfY ?_) λh10=>lfY ?_)<;>(try simp only[AA] at *)<;>(try simp only[std,Nat.reduceAdd,inRange,u8_in] at *)<;>(try simp only[S_,fX,av,cy] at *)<;>(first|(refine Jb ?_;omega)|exact⟨o_,o_,o_,by decide,rfl,rfl⟩|(obtain⟨a1,a2,a3,a4,a5,a6⟩:=i2;have hq:=AlS y2.2.1.toNat o_))<;>(first|omega|skip)<;>(try rw[ci (l:=toL s) (i:=y2.2.1.toNat) (by rw[AN];omega)] at a5 a6)<;>(first|(rw[<-a6];exact⟨o_,o_⟩)|(refine Jb ?_;rintro⟨q1,q2,q3,q4,q5⟩;rw[<-a6] at *;first|omega|contradiction)|(rw[a6];exact RC ⟨o_,o_,a5,o_,by rw[<-a6];assumption⟩)|skip)<;>(first|(refine Jb ?_;rintro⟨q1,q2,q3,q4,q5⟩;rw[Zu (i:=y2.2.1.toNat) o_ (by unfold digit;simp only[cy];omega)] at q3;cases q3)|skip)<;>rw[AaZ o_,Aw (n:=10*y2.1) o_,Aw (n:=y2.2.1+1) o_,Aw o_,show(y2.2.1+1).toNat=y2.2.1.toNat+1 from o_,WB o_,List.all_append,R7,Int.pow_succ]<;>refine⟨⟨o_,o_,o_,o_,?_,by rw[<-a6]⟩,o_⟩<;>(rw[a5];simp only[List.all_cons,List.all_nil,digit,Bool.and_true,Bool.true_and,av];omega))
def Abr {b:UInt8}:∀ {l:List UInt8},Ge b l=none->b∉l
 | [],_,h=>by cases h
 | x::l,hc,h=>by
  rw[Ge] at hc;split at hc
  ·cases hc
  ·rename_i hx;rcases ah.1 h with e|h
   ·exact hx e.symm
   ·exact Abr (Option.map_eq_none_iff.1 hc) h
def ruleOf (w:ByteArray):Option dE:=match Ge 58 (toL w) with
 | none=>none
 | some r=>if isName (ofL r.1)=true/\(parseInt (ofL r.2)).2=true/\1<=(parseInt (ofL r.2)).1/\(parseInt (ofL r.2)).1<=999 then some ⟨ofL r.1,(parseInt (ofL r.2)).1⟩ else none
def parseRules:List ByteArray->List dE->List dE
 | [],acc=>acc
 | w::l,acc=>parseRules l (if acc.length<8 then acc++(ruleOf w).toList else acc)
def PA {l:List ByteArray} {i:Nat} {acc:List dE} (h:i<l.length):parseRules (l.drop i) acc=parseRules (l.drop (i+1)) (if acc.length<8 then acc++(ruleOf (l.getD i default)).toList else acc):=by rw[B_ h];rfl
def NY {l:List ByteArray} {i:Nat} {acc:List dE} (h:l.length<=i):parseRules (l.drop i) acc=acc:=by rw[bQ h];rfl
def H5:∀ {l:List ByteArray} {acc:List dE},¬ acc.length<8->parseRules l acc=acc
 | [],_,_=>rfl
 | w::l,acc,h=>by rw[parseRules,F_ h];exact H5 h
def AdZ (w:ByteArray):ruleOf w=if(spl 58 w).length=2/\isName ((spl 58 w).getD 0 default)=true/\(parseInt ((spl 58 w).getD 1 default)).2=true/\1<=(parseInt ((spl 58 w).getD 1 default)).1/\(parseInt ((spl 58 w).getD 1 default)).1<=999 then some ⟨(spl 58 w).getD 0 default,(parseInt ((spl 58 w).getD 1 default)).1⟩ else none:=by
 unfold ruleOf;rw[FG];cases h:Ge 58 (toL w) with
 | none=>simp
 | some r=>
  obtain⟨p,q⟩:=r;simp only[aq];by_cases hq:(58:UInt8)∈q
  ·have hd:(parseInt (ofL q)).2=false:=by unfold parseInt;rw[F_];rintro⟨q1,q2,q3,_⟩;rw[BC,aH] at q3;have:=q3 58 hq;cases this
   have hl:(spl 58 (ofL q)).length≠1:=by
    intro hl;rw[FG,BC] at hl;cases hc:Ge 58 q with
    | none=>exact Abr hc hq
    | some r2=>
     rw[hc] at hl;have:=(Fy 58 (ofL r2.2)).1;simp_all
   simp_all
  ·have hs:spl 58 (ofL q)=[ofL q]:=by
    rw[FG,BC];cases hc:Ge 58 q with
    | none=>rfl
    | some r2=>exact absurd (LS (p:=r2.1) (q:=r2.2) hc) hq
   rw[hs];simp
def parseSheet (s:ByteArray):bA:=⟨parseRules (spl 59 s) []⟩
abbrev I6:Fct:=⟨[.v (.el .str)],[.el .sheet],λ(x:D_)=>x.1.size<=4200000000,λ(x:D_)=>(parseSheet x.1,())⟩
abbrev BZ (s:ByteArray):LInv:=⟨[⟨.b,3,true,.el .sheet⟩,⟨.s,5,true,.el .int⟩,⟨.b,2,true,.el .sheet⟩,⟨.s,4,true,.sl .str⟩],λ(z x:fA)=>((0<=x.2.1/\x.2.1<=(spl 59 s).length/\x.1.rules.length<=8/\parseRules ((spl 59 s).drop x.2.1.toNat) x.1.rules=parseRules (spl 59 s) [])/\x.2.2.1=z.2.2.1)/\x.2.2.2.1=z.2.2.2.1,λ(x:fA)=>(spl 59 s).length-x.2.1.toNat⟩
def Al8:=AnF.a I6<|Fct.p (KP [0,2,3,4,5,6,7,8] [21,38,50]) (λ⟨s,_⟩=>lv [(4,BZ s)]) AnF.2 func187 (by
 rintro⟨(s:ByteArray),_⟩ hp;refine ho (.cl Df (s,(59:Int),()) λz2=>lpx (BZ s) (default,((0:Int),(default,(z2.1,())))) λ(y2:fA) bk2=>let Z_:Out:=.lf I6 (y2.1,());let H_:Out:=.re (Value.string s)<|.bk (bk2 (y2.1,(w1 y2.2.1,(y2.2.2.1,(y2.2.2.2.1,())))));.br (decide (y2.2.1<(y2.2.2.2.1.length:Int))) (.br (decide ((y2.1.rules.length:Int)<8)) (.ix y2.2.1 y2.2.2.2.1.length<|.cl Df (y2.2.2.2.1.getD y2.2.1.toNat default,(58:Int),()) λz3=>let M_:=(z3.1.length:Int);let J_:=(0:Int)<=(0:Int)/\(0:Int)<M_;.br (M_ != 2) H_ (.ob J_<|.ob (0<z3.1.length)<|.cl CA (z3.1.getD 0 default,()) λz4=>.br (!z4.1) H_ (.ob ((0:Int)<=(1:Int)/\(1:Int)<M_)<|.ob (1<z3.1.length)<|.cl J2 (z3.1.getD 1 default,()) λ(z5:Int×Bool×PUnit)=>let R_:=(⟨z3.1.getD 0 default,z5.1⟩:dE);.br (z5.2.1) (.cl AC (z5.1,(1:Int),(999:Int),()) λz6=>.br (z6.1) (.ob J_<|.ob (0<z3.1.length)<|.ap (y2.1.rules.length+[R_].length) 24<|.re (Value.string s)<|.bk (bk2 ((⟨y2.1.rules++[R_]⟩:bA),(w1 y2.2.1,(y2.2.2.1,(y2.2.2.2.1,())))))) H_) H_))) Z_) Z_) ?_;refine Aj ?_ λ_=>(Aq ?_ λ(y2:fA) i2=>Aa (λh3=>Aa (λh4=>CW ?_ λo5 o6=>Aj ?_ λ_=>Aa (λh8=>An<|AR ?_) λh8=>Ac ?_ λ_=>Ac ?_ λ_=>Aj ?_ λ_=>Aa (λh13=>An<|AR ?_) λh13=>Ac ?_ λ_=>Ac ?_ λ_=>Aj ?_ λ_=>Aa (λh18=>Aj trivial λ_=>Aa (λh19=>Ac ?_ λ_=>Ac ?_ λ_=>EG ?_ λ_=>An<|AR ?_) λh19=>An<|AR ?_) λh18=>An<|AR ?_) λh4=>lfY ?_) λh3=>lfY ?_)<;>(have hk:=Fy 59 s;have hm:∀ i,i<(spl 59 s).length->((spl 59 s).getD i default).size<=s.size:=λi h=>Rc (Ae h))<;>(have hp1:s.size<=4200000000:=hp;try simp only[AA] at *)<;>(try simp only[std,Nat.reduceAdd,inRange,show UInt8.ofNat (Int.toNat 59)=59 from rfl,show UInt8.ofNat (Int.toNat 58)=58 from rfl] at *)<;>(first|trivial|omega|exact⟨o_,by decide,by decide⟩|exact⟨o_,o_,by decide,rfl⟩|(obtain⟨⟨⟨a1,a2,a3,a4⟩,a5⟩,a6⟩:=i2;simp only[a6,S_,fX,av,cy] at *))<;>(try have hw:=hm y2.2.1.toNat o_)<;>(try have hw0:=EI 58 ((spl 59 s).getD y2.2.1.toNat default) 0)<;>(try have hw1:=EI 58 ((spl 59 s).getD y2.2.1.toNat default) 1)<;>(first|trivial|omega|exact⟨o_,by decide,by decide⟩|exact⟨o_,o_⟩|skip)<;>(first|(rw[NY o_] at a4;show y2.1=parseSheet s;unfold parseSheet;rw[<-a4])|(rw[H5 o_] at a4;show y2.1=parseSheet s;unfold parseSheet;rw[<-a4])|skip)<;>have e:=PA (l:=spl 59 s) (i:=y2.2.1.toNat) (acc:=y2.1.rules) o_<;>rw[a4,G_ o_,AdZ] at e<;>rw[Aw o_,show(y2.2.1+1).toNat=y2.2.1.toNat+1 from o_]<;>(first|(rw[F_ (by rintro⟨q1,q2,q3,q4,q5⟩;first|omega|exact absurd (q2.symm.trans (show isName _=false from ‹_›)) (by decide)|exact absurd (q3.symm.trans (show Prod.snd _=false from ‹_›)) (by decide)),Option.toList_none,cz] at e;exact⟨⟨⟨⟨o_,o_,o_,e.symm⟩,‹_›⟩,trivial⟩,o_⟩)|(rw[G_ (by exact⟨o_,‹_›,‹_›,o_,o_⟩),Option.toList_some] at e;exact⟨⟨⟨⟨o_,o_,by rw[ak];simp only[aq,aU];omega,e.symm⟩,‹_›⟩,trivial⟩,o_⟩)|skip))
def openIdx {α:Type} (f:α->Bool):List α->Int->List Int
 | [],_=>[]
 | x::l,k=>if f x then k::openIdx f l (k+1) else openIdx f l (k+1)
theorem aM {α:Type} [Inhabited α] {f:α->Bool} {l:List α} {i:Nat} {k:Int} (h:i<l.length):openIdx f (l.drop i) k=if f (l.getD i default) then k::openIdx f (l.drop (i+1)) (k+1) else openIdx f (l.drop (i+1)) (k+1):=by rw[B_ h];rfl
theorem aF {α:Type} {f:α->Bool} {l:List α} {i:Nat} {k:Int} (h:l.length<=i):openIdx f (l.drop i) k=[]:=by rw[bQ h];rfl
def Dm {α:Type} (f:α->Bool):∀ (l:List α) (k:Int) (x:Int),x∈openIdx f l k->k<=x/\x<k+l.length
 | [],k,x,h=>by cases h
 | a::l,k,x,h=>by rw[openIdx] at h;have ih:=Dm f l (k+1) x;grind
def Dh {α:Type} (f:α->Bool):∀ (l:List α) (k:Int),(openIdx f l k).length<=l.length
 | [],k=>Y_ _
 | a::l,k=>by have:=Dh f l (k+1);rw[openIdx];grind
def openSlots (p:HO):List Int:=openIdx (λs=>!s.done) p.bf 0
def openMods (p:HO):List Int:=openIdx (λm=>!m.done) p.bi 0
abbrev Ih:Fct:=⟨[.v (.el .page)],[.sl .int],λ(x:ai)=>x.1.bf.length<=1000000000000,λ(x:ai)=>(openSlots x.1,())⟩
abbrev Ci (p:HO):LInv:=⟨[⟨.s,3,true,.sl .int⟩,⟨.s,4,true,.el .int⟩,⟨.b,1,false,.el .page⟩],λ(z x:bO)=>(0<=x.2.1/\x.2.1<=p.bf.length/\x.1.length<=x.2.1/\x.1++openIdx (λs=>!s.done) (p.bf.drop x.2.1.toNat) x.2.1=openSlots p)/\x.2.2.1=z.2.2.1,λ(x:bO)=>p.bf.length-x.2.1.toNat⟩
def AnP:=Al8.a Ih<|Fct.p (KP [1,2,3,4] [10,19]) (λ⟨p,_⟩=>lv [(3,Ci p)]) Al8.2 func68 (by
 rintro⟨(p:HO),_⟩ hp;refine ho (lpx (Ci p) ([],((0:Int),(p,()))) λ(y1:bO) bk1=>.br (decide (y1.2.1<(y1.2.2.1.bf.length:Int))) (.ob (inB y1.2.1 y1.2.2.1.bf.length)<|.br (!(y1.2.2.1.bf.getD y1.2.1.toNat default).done) (.ap (y1.1.length+[y1.2.1].length) 8<|.bk (bk1 (y1.1++[y1.2.1],(w1 y1.2.1,(y1.2.2.1,()))))) (.bk (bk1 (y1.1,(w1 y1.2.1,(y1.2.2.1,())))))) (.lf Ih (y1.1,()))) ?_;refine Aq ?_ λ(y1:bO) i1=>Aa (λh2=>Ac ?_ λ_=>Aa (λh4=>EG ?_ λ_=>AR ?_) λh4=>AR ?_) (λh2=>lfY ?_)<;>(have h0:openIdx (λs:aw=>!s.done) (p.bf.drop 0) 0=openSlots p:=rfl;try simp only[AA] at *)<;>(try simp only[std,Nat.reduceAdd,aM,aF,ak,aq,aU,bF] at *)<;>(try simp(disch:=omega) only[A_,C_] at *)<;>(try simp(disch:=omega) only[G_,F_])<;>(first|trivial|omega|grind[A_,C_,B_,K_,I_,maxLen,aM,aF,List.length_append,List.length_cons,List.length_nil,List.append_assoc]))
abbrev JT:Fct:=⟨[.v (.el .page)],[.sl .int],λ(x:ai)=>x.1.bi.length<=1000000000000,λ(x:ai)=>(openMods x.1,())⟩
abbrev CO (p:HO):LInv:=⟨[⟨.s,3,true,.sl .int⟩,⟨.s,4,true,.el .int⟩,⟨.b,1,false,.el .page⟩],λ(z x:bO)=>(0<=x.2.1/\x.2.1<=p.bi.length/\x.1.length<=x.2.1/\x.1++openIdx (λm=>!m.done) (p.bi.drop x.2.1.toNat) x.2.1=openMods p)/\x.2.2.1=z.2.2.1,λ(x:bO)=>p.bi.length-x.2.1.toNat⟩
def Amm:=AnP.a JT<|Fct.p (KP [1,2,3,4] [10,19]) (λ⟨p,_⟩=>lv [(3,CO p)]) AnP.2 func70 (by
 rintro⟨(p:HO),_⟩ hp;refine ho (lpx (CO p) ([],((0:Int),(p,()))) λ(y1:bO) bk1=>.br (decide (y1.2.1<(y1.2.2.1.bi.length:Int))) (.ob (inB y1.2.1 y1.2.2.1.bi.length)<|.br (!(y1.2.2.1.bi.getD y1.2.1.toNat default).done) (.ap (y1.1.length+[y1.2.1].length) 8<|.bk (bk1 (y1.1++[y1.2.1],(w1 y1.2.1,(y1.2.2.1,()))))) (.bk (bk1 (y1.1,(w1 y1.2.1,(y1.2.2.1,())))))) (.lf JT (y1.1,()))) ?_;refine Aq ?_ λ(y1:bO) i1=>Aa (λh2=>Ac ?_ λ_=>Aa (λh4=>EG ?_ λ_=>AR ?_) λh4=>AR ?_) (λh2=>lfY ?_)<;>(have h0:openIdx (λm:X_=>!m.done) (p.bi.drop 0) 0=openMods p:=rfl;try simp only[AA] at *)<;>(try simp only[std,Nat.reduceAdd,aM,aF,ak,aq,aU,bF] at *)<;>(try simp(disch:=omega) only[A_,C_] at *)<;>(try simp(disch:=omega) only[G_,F_])<;>(first|trivial|omega|grind[A_,C_,B_,K_,I_,maxLen,aM,aF,List.length_append,List.length_cons,List.length_nil,List.append_assoc]))
def allowsInline (p:aQ) (n:ByteArray):Bool:=!p.set_||(!decide (p.nonce=⟨#[]⟩)&&decide (p.nonce=n))
abbrev DL:Fct:=⟨[.v (.el .bm),.v (.el .str)],[.el .bool],λ(x:gT)=>True,λ(x:gT)=>(allowsInline x.1 x.2.1,())⟩
def AmT:=Amm.a DL<|Fct.o [1,2,4] Amm.2 func191 (by
 rintro⟨(p:aQ),(n:ByteArray),_⟩ hp;exact hg (.br (!p.set_) (.lf DL (true,())) (.br (!p.nonce.toList==(⟨#[]⟩:ByteArray).toList) (.lf DL (p.nonce.toList==ByteArray.toList n,())) (.lf DL (false,())))) (@allowsInline.eq_1))
def isVoid (n:ByteArray):Bool:=decide (n=⟨#[105,109,103]⟩)||decide (n=⟨#[108,105,110,107]⟩)
abbrev Pj:Fct:=⟨[.v (.el .str)],[.el .bool],λ(x:D_)=>True,λ(x:D_)=>(isVoid x.1,())⟩
def AmZ:=AmT.a Pj<|Fct.o [0,2] AmT.2 func189 (by
 rintro⟨(n:ByteArray),_⟩ hp;exact hg (.br (ByteArray.toList n==(⟨#[105,109,103]⟩:ByteArray).toList) (.lf Pj (true,())) (.lf Pj (ByteArray.toList n==(⟨#[108,105,110,107]⟩:ByteArray).toList,()))) (@isVoid.eq_1))
def sheetsOf (l:List aw):List bA:=(l.filter λs=>decide (s.mode=2)&&(s.done&&decide (s.code=1))).map λs=>parseSheet s.body
theorem cd {l:List aw} {i:Nat} (h:i<l.length):sheetsOf (l.drop i)=if(l.getD i default).mode=2/\(l.getD i default).done=true/\(l.getD i default).code=1 then parseSheet (l.getD i default).body::sheetsOf (l.drop (i+1)) else sheetsOf (l.drop (i+1)):=by
 rw[B_ h];unfold sheetsOf;grind
theorem cK {l:List aw} {i:Nat} (h:l.length<=i):sheetsOf (l.drop i)=[]:=by rw[bQ h];rfl
def okBod (p:HO):Prop:=∀ i,i<p.bf.length->(p.bf.getD i default).body.size<=4200000000
abbrev JQ:Fct:=⟨[.v (.el .page)],[.sl .sheet],λ(x:ai)=>szL AO x.1.bf<=1000000000000/\okBod x.1,λ(x:ai)=>(sheetsOf x.1.bf,())⟩
abbrev CE (p:HO):LInv:=⟨[⟨.s,3,true,.sl .sheet⟩,⟨.s,4,true,.el .int⟩,⟨.b,1,false,.el .page⟩],λ(z x:fB)=>(0<=x.2.1/\x.2.1<=p.bf.length/\x.1.length<=x.2.1/\x.1++sheetsOf (p.bf.drop x.2.1.toNat)=sheetsOf p.bf)/\x.2.2.1=z.2.2.1,λ(x:fB)=>p.bf.length-x.2.1.toNat⟩
def AnS:=AmZ.a JQ<|Fct.p (KP [1,2,3,4,5] [11,30]) (λ⟨p,_⟩=>lv [(3,CE p)]) AmZ.2 func141 (by
 rintro⟨(p:HO),_⟩ hp;refine ho (lpx (CE p) ([],((0:Int),(p,()))) λ(y1:fB) bk1=>let J_:Out:=.bk (bk1 (y1.1,(w1 y1.2.1,(y1.2.2.1,()))));let H_:=y1.2.2.1.bf.getD y1.2.1.toNat default;.br (decide (y1.2.1<(y1.2.2.1.bf.length:Int))) (.ob (inB y1.2.1 y1.2.2.1.bf.length)<|.br (H_.mode==2) (.br (H_.done) (.br (H_.code==1) (.cl I6 (H_.body,()) λz2=>.ob (IJ (y1.1.length+[z2.1].length) 24)<|.bk (bk1 (y1.1++[z2.1],(w1 y1.2.1,(y1.2.2.1,()))))) J_) J_) J_) (.lf JQ (y1.1,()))) ?_;refine Aq ?_ λ(y1:fB) i1=>Aa (λh2=>Ac ?_ λ_=>Aa (λh4=>Aa (λh5=>Aa (λh6=>Aj ?_ λ_=>Ac ?_ λ_=>AR ?_) λh6=>AR ?_) λh5=>AR ?_) λh4=>AR ?_) (λh2=>lfY ?_)<;>(have h0:sheetsOf (p.bf.drop 0)=sheetsOf p.bf:=rfl;have hl:=Ad AO p.bf;have hg:∀ i,i<p.bf.length->(p.bf.getD i default).body.size<=4200000000:=hp.2;have hg2:szL AO p.bf<=1000000000000:=hp.1;clear hp;try simp only[AA] at *)<;>(try simp only[std,Nat.reduceAdd,cd,cK,ak,aq,aU,bF] at *)<;>(try simp(disch:=omega) only[A_,C_] at *)<;>(try simp(disch:=omega) only[G_,F_])<;>(first|trivial|omega|grind[A_,C_,B_,K_,I_,maxLen,cd,cK,List.length_append,List.length_cons,List.length_nil,List.append_assoc]))
def Adt {w:ByteArray} {r:dE} (h:ruleOf w=some r):r.name.size<=w.size/\1<=r.color/\r.color<=999:=by
 unfold ruleOf at h;split at h
 ·cases h
 ·rename_i q hq;split at h
  ·rename_i hc;have:=NS (p:=q.1) (q:=q.2) hq;obtain rfl:=Option.some.inj h;rw[AN] at this;exact⟨by rw[Dd];omega,hc.2.2⟩
  ·cases h
def Fa:∀ (l:List ByteArray) (acc:List dE),szL Oh (parseRules l acc)<=szL Oh acc+szL Ag l/\∀ r,r∈parseRules l acc->r∈acc\/1<=r.color/\r.color<=999
 | [],acc=>⟨by rw[parseRules];omega,λr h=>.inl h⟩
 | w::l,acc=>by
  rw[parseRules,Ah];by_cases hc:acc.length<8
  ·rw[G_ hc];cases hr:ruleOf w with
   | none=>
    obtain⟨i1,i2⟩:=Fa l acc;grind
   | some x=>
    obtain⟨i1,i2⟩:=Fa l (acc++[x]);have hx:=Adt hr;rw[Option.toList_some];rw[EU] at i1;refine⟨by simp only[Oh,Ag] at *;omega,λr h=>?_⟩;grind
  ·rw[F_ hc];obtain⟨i1,i2⟩:=Fa l acc;exact⟨o_,i2⟩
def PF (s:ByteArray):Eh (parseSheet s)<=s.size+1/\∀ r,r∈(parseSheet s).rules->1<=r.color/\r.color<=999:=by
 obtain⟨h1,h2⟩:=Fa (spl 59 s) [];rw[Pu] at h1;have h0:szL Oh []=0:=rfl;exact⟨by simp only[Eh,parseSheet];omega,λr h=>(h2 r h).elim (λh=>by cases h) id⟩
def FJ:∀ (l:List aw),szL Eh (sheetsOf l)<=2*szL AO l/\okSheets (sheetsOf l)
 | []=>⟨Nat.zero_le _,λs h=>by cases h⟩
 | x::l=>by
  obtain⟨i1,i2⟩:=FJ l;have e:=cd (l:=x::l) (i:=0) (by simp);rw[fI] at e;rw[e,Ah];split
  ·have hp:=PF x.body;refine⟨?_,λs h=>?_⟩
   ·rw[Ah];simp only[AO] at *;show Eh (parseSheet x.body)+1+szL Eh (sheetsOf l)<=_;omega
   ·rcases ah.1 h with rfl|h
    ·grind
    ·exact i2 s h
  ·grind
def Nq (s:ByteArray):∀ (l:List ByteArray) (k:Int),(line8L s l k).2=true->(line8L s l k).1.text.size<=60
 | [],k,h=>by cases h
 | w::l,k,h=>by
  rw[line8L] at h ⊢;split
  ·rename_i hc;rw[G_ hc] at h;dsimp only at h ⊢;split at h
   ·simp_all
   ·have:=AX h;omega
  ·rename_i hc;rw[F_ hc] at h;exact Nq s l _ h
def F6 (s:ByteArray):szL Ea (parseScript s).1<=366/\(parseScript s).1.length<=6:=by
 unfold parseScript;split
 ·exact⟨by decide,by decide⟩
 ·split
  ·rename_i hc;have hs:∀ l:List ByteArray,allOk8 l=true->szL Ea (lines8 l)<=61*l.length:=by
    intro l
    induction l with
    | nil=>intro _;decide
    | cons w l ih=>
     intro h;simp only[allOk8,List.all_cons,S_] at h;have:=ih h.2;have h2:=Nq w _ _ h.1;show szL Ea ((line8 w).1::lines8 l)<=_;rw[Ah];simp only[Ea,aq,line8] at *;omega
   have:=hs _ hc.2;exact⟨by dsimp only;omega,by dsimp only;rw[lines8,cC];exact hc.1⟩
  ·exact⟨by decide,by decide⟩
def B0 {α:Type} (f:α->Nat):∀ (l m:List α),szL f (l++m)=szL f l+szL f m
 | [],m=>by show szL f m=0+szL f m;omega
 | x::l,m=>by rw[cj,Ah,Ah,B0 f l m];omega
def addLog:List ByteArray->List ByteArray->List ByteArray
 | g,[]=>g
 | g,x::l=>if g.length<40 then addLog (g++[x]) l else g
def Rn {l g:List ByteArray} {i:Nat} (h:i<l.length):addLog g (l.drop i)=if g.length<40 then addLog (g++[l.getD i default]) (l.drop (i+1)) else g:=by rw[B_ h];rfl
def Ou {l g:List ByteArray} {i:Nat} (h:l.length<=i):addLog g (l.drop i)=g:=by rw[bQ h];cases g<;>rfl
def Jl {l g:List ByteArray} (h:¬ g.length<40):addLog g l=g:=by
 cases l with
 | nil=>cases g<;>rfl
 | cons x l=>rw[addLog,F_ h]
def Ij (g:List ByteArray):addLog g []=g:=by cases g<;>rfl
def rsOf (p:HO) (c:ByteArray):aj×ByteArray×List ByteArray:=runScript p.ba (sheetsOf p.bf) (parseScript c).1
def runCode (p:HO) (c:ByteArray) (w:Bool):HO :=
 if(parseScript c).2=true then{ p with ba:=(rsOf p c).1,bp:=if w=true then tokensOf (rsOf p c).2.1++p.bp else p.bp,log:=addLog p.log (rsOf p c).2.2 }
 else{ p with log:=addLog p.log [⟨#[101,114,114,111,114]⟩]}
def Jg (l:List bA):∀ (r:List bM) (b:aj) (w:ByteArray) (g:List ByteArray),szBuilder (runLines l r b w g).1<=szBuilder b+szL Ea r/\(runLines l r b w g).2.1.size<=w.size+szL Ea r/\(runLines l r b w g).2.2.length<=g.length+r.length
 | [],b,w,g=>⟨cO _ _,cO _ _,cO _ _⟩
 | x::r,b,w,g=>by
  have h:=OF b l x;have i1:=Jg l r (runLine b l x).1 (w++(runLine b l x).2.1) (if(runLine b l x).2.2=⟨#[]⟩ then g else g++[(runLine b l x).2.2]);rw[runLines,Ah];have hg:(if(runLine b l x).2.2=⟨#[]⟩ then g else g++[(runLine b l x).2.2]).length<=g.length+1:=by split<;>simp
  rw[aN] at i1;simp only[aq,Ea] at *
  omega
def Aae (p:HO) (c:ByteArray):szBuilder (rsOf p c).1<=szBuilder p.ba+366/\(rsOf p c).2.1.size<=366/\(rsOf p c).2.2.length<=6:=by
 have h1:=Jg (sheetsOf p.bf) (parseScript c).1 p.ba ⟨#[]⟩ [];have h2:=F6 c;have h0:ByteArray.size ⟨#[]⟩=0:=rfl;simp only[rsOf,runScript,aU] at *
 omega
def Je (s:ByteArray):szL szToken (tokensOf s)<=s.size+2/\(tokensOf s).length<=s.size+2:=by
 have h1:=KO s;have h2:=ON (feedAll s).2;have h3:szL szToken (tokensOf s)<=s.size+2:=by unfold tokensOf;rw[B0];omega
 exact⟨h3,aR (Ad _ _) h3⟩
abbrev FQ:Fct:=⟨[.v (.el .page),.v (.el .str),.v (.el .bool)],[.el .page],λ(x:fL)=>Al x.1<=1000000000000/\szBuilder x.1.ba<=40000000000/\szL AO x.1.bf<=40000000000/\x.2.1.size<=4200000000/\okBod x.1,λ(x:fL)=>(runCode x.1 x.2.1 x.2.2.1,())⟩
abbrev CT (p:HO) (c:ByteArray) (w:Bool):LInv:=⟨[⟨.b,7,true,.el .page⟩,⟨.s,13,true,.el .int⟩,⟨.b,6,true,.el .page⟩,⟨.s,12,true,.sl .str⟩],λ(z x:dK)=>((0<=x.2.1/\x.2.1<=(rsOf p c).2.2.length/\x.1={ p with ba:=(rsOf p c).1,log:=x.1.log }/\addLog x.1.log ((rsOf p c).2.2.drop x.2.1.toNat)=addLog p.log (rsOf p c).2.2/\x.1.log.length<=p.log.length+x.2.1)/\x.2.2.1=z.2.2.1)/\x.2.2.2.1=z.2.2.2.1,λ(x:dK)=>(rsOf p c).2.2.length-x.2.1.toNat⟩
def AnA:=AnS.a FQ<|Fct.p (KP [1,2,3,6,7,8,9,10,11,12,13] [22,26,54,66]) (λ⟨p,c,w,_⟩=>lv [(10,CT p c w)]) AnS.2 func106 (by
 rintro⟨(p:HO),(c:ByteArray),(w:Bool),_⟩ hp;refine ho (.cl AW (p,()) λz2=>.cl CQ (c,()) λz3=>.br (!z3.2.1) (.br (decide ((z2.1.log.length:Int)<40)) (.ap (z2.1.log.length+1) 16<|.lf FQ ({z2.1 with log:=z2.1.log++[(⟨#[101,114,114,111,114]⟩:ByteArray)]},())) (.lf FQ (z2.1,()))) (.cl JQ (p,()) λz4=>.cl Ib (p.ba,z4.1,z3.1,()) λz5=>lpx (CT p c w) (({z2.1 with ba:=z5.1}:HO),((0:Int),(default,(z5.2.2.1,())))) λ(y8:dK) bk8=>let H_:Out:=.br (w) (.cl Mu (z5.2.1,()) λz6=>.ob (IJ (z6.1.length+y8.1.bp.length) 64)<|.lf FQ ({y8.1 with bp:=z6.1++y8.1.bp},())) (.lf FQ (y8.1,()));.br (decide (y8.2.1<(y8.2.2.2.1.length:Int))) (.br (decide ((y8.1.log.length:Int)<40)) (.ix y8.2.1 y8.2.2.2.1.length<|.ap (y8.1.log.length+[y8.2.2.2.1.getD y8.2.1.toNat default].length) 16<|.re (Value.string c)<|.re (Value.bool w)<|.re (Value.bool z3.2.1)<|.re (Value.string z5.2.1)<|.bk (bk8 (({y8.1 with log:=y8.1.log++[y8.2.2.2.1.getD y8.2.1.toNat default]}:HO),(w1 y8.2.1,(y8.2.2.1,(y8.2.2.2.1,())))))) H_) H_)) ?_;refine Aj ?_ λ_=>(Aj ?_ λ_=>Aa (λh3=>Aa (λh4=>EG ?_ λ_=>lfY ?_) λh4=>lfY ?_) λh3=>Aj ?_ λ_=>Aj ?_ λ_=>Aq ?_ λ(y8:dK) i8=>Aa (λh9=>Aa (λh10=>CW ?_ λo11 o12=>EG ?_ λ_=>An<|An<|An<|An<|AR ?_) λh10=>Aa (λh15=>Aj ?_ λ_=>Ac ?_ λ_=>lfY ?_) λh15=>lfY ?_) λh9=>Aa (λh18=>Aj ?_ λ_=>Ac ?_ λ_=>lfY ?_) λh18=>lfY ?_)<;>(have hz:=Aae p c;have hs:=F6 c;have hk:=FJ p.bf;have hq:szL szToken p.bp+szBuilder p.ba+szL AO p.bf+szL Ag p.log<=Al p:=by simp only[Al];omega)<;>(have hq1:=Ad szToken p.bp;have hq2:=Ad Ag p.log)<;>obtain⟨hp1,hp2,hp3,hp4,hp5⟩:=(show Al p<=1000000000000/\szBuilder p.ba<=40000000000/\szL AO p.bf<=40000000000/\c.size<=4200000000/\okBod p from hp)<;>(have hrs:runScript p.ba (sheetsOf p.bf) (parseScript c).1=rsOf p c:=rfl;try simp only[AA] at *)<;>(try simp only[std,Nat.reduceAdd,hrs] at *)<;>(first|trivial|omega|exact⟨o_,hp5⟩|exact⟨o_,o_,o_,hk.2⟩|exact⟨o_,o_,rfl,rfl,o_⟩|skip)<;>(first|(unfold runCode;rw[F_ (by rw[show Prod.snd _=false from ‹_›];decide)];first|rw[addLog,G_ o_,Ij]|(rw[Jl o_]))|skip)<;>(obtain⟨⟨⟨a1,a2,a3,a4,a5⟩,a6⟩,a7⟩:=i8;obtain⟨q,i,d,lg,u⟩:=y8;try dsimp only at *;generalize q.log=L at *;subst a3;subst a7;try dsimp only at *)<;>(first|trivial|omega|(have:=Je (rsOf p c).2.1;simp only[IJ];omega)|(have:=Je (rsOf p c).2.1;omega)|skip)<;>(first|(rw[Ou o_] at a4;unfold runCode;rw[G_ ‹_›,<-a4];first|rw[G_ ‹_›]|(rw[F_ (by rw[show w=false from ‹_›];decide)]))|(rw[Jl o_] at a4;unfold runCode;rw[G_ ‹_›,<-a4];first|rw[G_ ‹_›]|(rw[F_ (by rw[show w=false from ‹_›];decide)]))|skip)<;>(rw[Rn o_,G_ o_] at a4;rw[Aw o_,show(i+1).toNat=i.toNat+1 from o_])<;>exact⟨⟨⟨⟨o_,o_,rfl,a4,by rw[ak];simp only[aq,aU];omega⟩,a6⟩,rfl⟩,o_⟩)
def closeN (b:aj) (n:ByteArray):Nat->List Int
 | 0=>b.bn
 | 1=>b.bn
 | m+2=>if 0<=b.bn.getD (m+1) default/\b.bn.getD (m+1) default<b.bj.length/\(b.bj.getD (b.bn.getD (m+1) default).toNat default).name=n then b.bn.take (m+1) else closeN b n (m+1)
def Adl {b:aj} {n:ByteArray} {i:Int} (h:1<=i):closeN b n (i+1).toNat=if 0<=b.bn.getD i.toNat default/\b.bn.getD i.toNat default<b.bj.length/\(b.bj.getD (b.bn.getD i.toNat default).toNat default).name=n then b.bn.take i.toNat else closeN b n i.toNat:=by
 obtain⟨m,rfl⟩:∃ m:Nat,i=m+1:=⟨(i-1).toNat,o_⟩;rfl
def Yi {b:aj} {n:ByteArray} {i:Int} (h:i<=0):closeN b n (i+1).toNat=b.bn:=by
 have h2:(i+1).toNat=0\/(i+1).toNat=1:=o_
 rcases h2 with h2|h2<;>rw[h2]<;>rfl
def closeB (b:aj) (n:ByteArray):aj:=⟨b.bj,closeN b n b.bn.length⟩
abbrev OY:GS:=⟨[.g (.el .ba),.l (.v (.el .str))],[.el .ba],λ(x:fu)=>szBuilder x.1<=1000000000000,λ(x:fu)=>((closeB x.1 x.2.1,()),(()))⟩
abbrev DO (b:aj) (n:ByteArray):LInv:=⟨[⟨.s,5,true,.el .int⟩,⟨.b,2,true,.el .ba⟩,⟨.b,4,true,.el .ba⟩],λ_ (x:dL)=>x.2.1=b/\-1<=x.1/\x.1<b.bn.length/\closeN b n (x.1+1).toNat=closeN b n b.bn.length,λ(x:dL)=>(x.1+1).toNat⟩
def AnD:=AnA.G OY<|GS.of (S:=OY) (L:=λ⟨b,n,_⟩=>λ|2=>some (DO b n)|_=>none) (kp:=(KP [1,2,4,5,6] [12,35])) AnA.2 func188 k_ k_ (by
 rintro⟨(b:aj),(n:ByteArray),_⟩ hp;refine ho (lpx (DO b n) (wr ((b.bn.length:Int)-(1:Int)),(b,(default,()))) λ(y1:dL) bk1=>.br (decide (y1.1>0)) (.ix y1.1 y1.2.1.bn.length<|.cl AC (y1.2.1.bn.getD y1.1.toNat default,(0:Int),wr ((y1.2.1.bj.length:Int)-(1:Int)),()) λz2=>.br (z2.1) (.ix (y1.2.1.bn.getD y1.1.toNat default) y1.2.1.bj.length<|.br ((y1.2.1.bj.getD (y1.2.1.bn.getD y1.1.toNat default).toNat default).name.toList==n.toList) (.ob (0<=y1.1/\y1.1<=(y1.2.1.bn.length:Int))<|.ob (0+(y1.1.toNat-0)<=y1.2.1.bn.length)<|GS.out OY ((⟨y1.2.1.bj,cut y1.2.1.bn 0 (y1.1.toNat-0)⟩,()),(()))) (.re (Value.string n)<|.bk (bk1 (wr (y1.1-(1:Int)),(y1.2.1,(y1.2.2.1,())))))) (.re (Value.string n)<|.bk (bk1 (wr (y1.1-(1:Int)),(y1.2.1,(y1.2.2.1,())))))) (GS.out OY ((y1.2.1,()),(())))) ?_;refine Aq ?_ λ(y1:dL) i1=>Aa (λh2=>CW ?_ λo3 o4=>Aj trivial λ_=>Aa (λh5=>CW ?_ λo6 o7=>Aa (λh8=>Ac ?_ λ_=>Ac ?_ λ_=>GS.leafY ?_) λh8=>An<|AR ?_) λh5=>An<|AR ?_) (λh2=>GS.leafY ?_)<;>(have hl:b.bn.length<=1000000000000:=by have h1:szBuilder b<=1000000000000:=hp;simp only[szBuilder] at h1;omega)<;>(have hn:b.bj.length<=1000000000000:=by have h1:szBuilder b<=1000000000000:=hp;have:=Ad AF b.bj;simp only[szBuilder] at h1;omega)<;>(try simp only[AA] at *)<;>(try simp only[std,Nat.reduceAdd,inRange,closeB] at *)<;>(try obtain⟨a0,a1,a2,a3⟩:=i1;simp only[a0] at *)<;>(try simp only[Aw (show -9223372036854775808<=(b.bn.length:Int)-1/\(b.bn.length:Int)-1<=9223372036854775807 from o_)] at *)<;>(first|trivial|omega|(rw[show((b.bn.length:Int)-1+1).toNat=b.bn.length from o_];exact⟨o_,o_,rfl⟩)|skip)<;>(try simp only[S_,fX,av,cy,Aw (show -9223372036854775808<=(b.bj.length:Int)-1/\(b.bj.length:Int)-1<=9223372036854775807 from o_)] at *)<;>(first|omega|(rw[Yi o_] at a3;rw[<-a3])|skip)<;>rw[Adl o_] at a3<;>(first|(rw[G_ (by exact⟨o_,o_,‹_›⟩)] at a3;rw[<-a3];first|rfl|simp[cut])|(rw[F_ (by rintro⟨q1,q2,q3⟩;first|omega|exact absurd q3 ‹_›)] at a3;rw[Aw o_,show(y1.1-1+1).toNat=y1.1.toNat from o_];exact⟨⟨by first|assumption|trivial,o_,o_,a3⟩,o_⟩)))
def lastOpen (b:aj):Int:=b.bn.getD (b.bn.length-1) default
def addToken (b:aj) (t:af):aj×Int :=
 if t.kind=2 then(closeB b t.name,-1)
 else if b.bj.length<40/\0<b.bn.length/\(t.kind=1/\isVoid t.name=false->b.bn.length<8)/\(t.kind=1\/t.kind=3/\t.text≠⟨#[]⟩) then
  (if t.kind=1 then⟨b.bj++[⟨t.name,⟨#[]⟩,lastOpen b,t.bq⟩],if isVoid t.name=true then b.bn else b.bn++[(b.bj.length:Int)]⟩ else⟨b.bj++[⟨⟨#[]⟩,t.text,lastOpen b,[]⟩],b.bn⟩,(b.bj.length:Int))
 else(b,-1)
def N4 {b:aj} {t:af} (h:t.kind=2):addToken b t=(closeB b t.name,-1):=by unfold addToken;rw[G_ h]
def Un {b:aj} {t:af} (h:¬ t.kind=2) (h2:40<=b.bj.length\/b.bn.length=0\/(t.kind=1/\isVoid t.name=false/\8<=b.bn.length)\/(t.kind≠1/\(t.kind≠3\/t.text=⟨#[]⟩))):addToken b t=(b,-1):=by
 unfold addToken;grind
def Uh {b:aj} {t:af} (h:t.kind=1) (h1:b.bj.length<40) (h2:0<b.bn.length) (h3:isVoid t.name=true\/b.bn.length<8):addToken b t=(⟨b.bj++[⟨t.name,⟨#[]⟩,lastOpen b,t.bq⟩],if isVoid t.name=true then b.bn else b.bn++[(b.bj.length:Int)]⟩,(b.bj.length:Int)):=by
 unfold addToken;grind
def Uy {b:aj} {t:af} (h:t.kind=3) (h1:b.bj.length<40) (h2:0<b.bn.length) (h3:¬ t.text=⟨#[]⟩):addToken b t=(⟨b.bj++[⟨⟨#[]⟩,t.text,lastOpen b,[]⟩],b.bn⟩,(b.bj.length:Int)):=by
 unfold addToken;simp_all
def No {b:aj}:b.bn.getD ((b.bn.length:Int)-1).toNat default=lastOpen b:=by
 rw[show((b.bn.length:Int)-1).toNat=b.bn.length-1 from o_];rfl
abbrev CN:Fct:=⟨[.v (.el .ba),.v (.el .token)],[.el .ba,.el .int],λ(x:aj×af×Unit)=>szBuilder x.1<=100000000000/\szToken x.2.1<=100000000000,λ(x:aj×af×Unit)=>((addToken x.1 x.2.1).1,(addToken x.1 x.2.1).2,())⟩
def AmW:=AnD.a CN<|Fct.o (KP [2,3,4,5,6,7,8,9] [17,47,59,70,88]) AnD.2 func143 (by
 rintro⟨(b:aj),(t:af),_⟩ hp;refine ho (let aK:=(⟨#[]⟩:ByteArray);let bH:=!t.text.toList==aK.toList;let ax:=(b.bn.length:Int);let Z_:=(b.bj.length:Int);let bS:=decide (Z_>=40);let M_:=ax-(1:Int);let aW:=0<=wr M_/\wr M_<ax;let J_:=(⟨aK,t.text,b.bn.getD (wr M_).toNat default,[]⟩:cP);.cl Dt (b,()) λz2=>let aJ:=z2.1.bn.length+[Z_].length;let cg:=IJ (z2.1.bj.length+[J_].length) 64;let R_:Out:=.lf CN (z2.1,(-1:Int),());.br (t.kind==2) (.ob (OY.pre (z2.1,t.name,()))<|.lt _ (OY.fn (z2.1,t.name,())) λz3=>.lf CN (z3.1.1,(-1:Int),())) (.br (t.kind==1) (.cl Pj (t.name,()) λz4=>let H_:Out:=.ob aW<|.br (t.kind==1) (.cl Fc (t.bq,()) λz5=>let ar:=(⟨t.name,aK,b.bn.getD (wr M_).toNat default,z5.1⟩:cP);.ob (IJ (z2.1.bj.length+[ar].length) 64)<|.br (!z4.1) (.ap aJ 8<|.lf CN (⟨z2.1.bj++[ar],z2.1.bn++[Z_]⟩,Z_,())) (.lf CN (⟨z2.1.bj++[ar],z2.1.bn⟩,Z_,()))) (.br (t.kind==3) (.br bH (.ob cg<|.br (!z4.1) (.ap aJ 8<|.lf CN (⟨z2.1.bj++[J_],z2.1.bn++[Z_]⟩,Z_,())) (.lf CN (⟨z2.1.bj++[J_],z2.1.bn⟩,Z_,()))) R_) R_);.br bS R_ (.br (ax==0) R_ (.br (!z4.1) (.br (decide (ax>=8)) R_ H_) H_))) (.br bS R_ (.br (ax==0) R_ (.ob aW<|.br (t.kind==1) (.cl Fc (t.bq,()) λz7=>let bK:=(⟨t.name,aK,b.bn.getD (wr M_).toNat default,z7.1⟩:cP);.ob (IJ (z2.1.bj.length+[bK].length) 64)<|.lf CN (⟨z2.1.bj++[bK],z2.1.bn⟩,Z_,())) (.br (t.kind==3) (.br bH (.ob cg<|.lf CN (⟨z2.1.bj++[J_],z2.1.bn⟩,Z_,())) R_) R_)))))) ?_;repeat' first|(guard_target =~ Out.holds _ _;first|refine lfY ?_|refine Aa (λ_=>?_) λ_=>?_|refine Aj ?_ λ_=>?_|refine Ac ?_ λ_=>?_|refine K6 ?_|refine EG ?_ λ_=>?_)|exact trivial
 all_goals (have hl:b.bn.length<=100000000000:=by have h1:szBuilder b<=100000000000:=hp.1;simp only[szBuilder] at h1;omega)<;>(have hn:b.bj.length<=100000000000:=by have h1:szBuilder b<=100000000000:=hp.1;have:=Ad AF b.bj;simp only[szBuilder] at h1;omega)<;>(have ha:szL BH t.bq<=100000000000/\t.bq.length<=100000000000:=by have h1:szToken t<=100000000000:=hp.2;have:=Ad BH t.bq;simp only[szToken] at h1;omega)<;>(try simp only[AA] at *)<;>(try simp only[std,Nat.reduceAdd] at *)<;>(try simp only[Aw (show -9223372036854775808<=(b.bn.length:Int)-1/\(b.bn.length:Int)-1<=9223372036854775807 from o_),No] at *)<;>(first|trivial|omega|skip)<;>(first|(rw[N4 ‹_›];exact⟨rfl,rfl⟩)|skip)<;>(first|(rw[Un o_ (by first|exact .inl o_|exact .inr (.inl o_)|exact .inr (.inr (.inl ⟨o_,‹_›,o_⟩))|exact .inr (.inr (.inr ⟨o_,.inl o_⟩))|exact .inr (.inr (.inr ⟨o_,.inr ‹_›⟩)))];exact⟨rfl,rfl⟩)|skip)<;>(first|(rw[Uh o_ o_ o_ (by first|exact .inl ‹_›|exact .inr o_)];first|rw[G_ ‹_›]|rw[F_ (by rw[show isVoid t.name=false from ‹_›];decide)])|(rw[Uy o_ o_ o_ ‹_›])|skip)<;>(first|exact⟨rfl,rfl⟩|exact absurd ((show isVoid t.name=true from ‹_›).symm.trans (show isVoid t.name=false from ‹_›)) (by decide)))
def K8 (s b:ByteArray):(parseAddr s b).1.host.size<=s.size+b.size/\(parseAddr s b).1.path.size<=s.size+b.size:=by
 have:=ML s b;unfold parseAddr;split
 ·grind
 ·exact⟨Nat.zero_le _,Nat.zero_le _⟩
def reqOf (p:HO) (s:aw):ay:=⟨kindOf s.mode,s.to,p.addr.host,s.digest⟩
def rawSlot (p:HO) (mode:Int) (to digest:ByteArray) (node:Int):aw:=⟨mode,(parseAddr to p.addr.host).1,digest,node,false,0,⟨#[]⟩⟩
def newSlot (p:HO) (mode:Int) (to digest:ByteArray) (node:Int):aw :=
 if(parseAddr to p.addr.host).2=true/\checkRequest p.bm (reqOf p (rawSlot p mode to digest node))=1 then rawSlot p mode to digest node
 else⟨mode,(parseAddr to p.addr.host).1,digest,node,true,2,⟨#[]⟩⟩
def addSlot (p:HO) (mode:Int) (to digest:ByteArray) (node:Int):HO×Int :=
 if p.bf.length<20/\kindOf mode≠0 then({ p with bf:=p.bf++[newSlot p mode to digest node]},(p.bf.length:Int)) else(p,-1)
def Rp (p:HO) (s:aw):slotRequest { p with bf:=p.bf++[s]} (p.bf.length:Int)=reqOf p s:=by
 unfold slotRequest reqOf;grind
def XF {p:HO} {mode:Int} {to digest:ByteArray} {node:Int} (h:20<=p.bf.length\/kindOf mode=0):addSlot p mode to digest node=(p,-1):=by
 unfold addSlot;rw[F_];rintro⟨q1,q2⟩;rcases h with h|h
 ·omega
 ·exact q2 h
def UE {p:HO} {mode:Int} {to digest:ByteArray} {node:Int} (h:p.bf.length<20) (h2:¬ kindOf mode=0):addSlot p mode to digest node=({ p with bf:=p.bf++[newSlot p mode to digest node]},(p.bf.length:Int)):=by
 unfold addSlot;rw[G_ ⟨h,h2⟩]
def I4 {α:Type}:∀ (l:List α) (x:α) (f:α->α),(l++[x]).modify l.length f=l++[f x]
 | [],x,f=>rfl
 | a::l,x,f=>by show a::(l++[x]).modify l.length f=_;rw[I4 l x f];rfl
def Yr {p:HO} {m:Int} {to d:ByteArray} {n:Int} (h:(parseAddr to p.addr.host).2=false\/¬ checkRequest p.bm (reqOf p (rawSlot p m to d n))=1):newSlot p m to d n=⟨m,(parseAddr to p.addr.host).1,d,n,true,2,⟨#[]⟩⟩:=by
 unfold newSlot;rw[F_];rintro⟨q1,q2⟩;rcases h with h|h
 ·simp_all
 ·exact h q2
def UT {p:HO} {m:Int} {to d:ByteArray} {n:Int} (h:(parseAddr to p.addr.host).2=true) (h2:checkRequest p.bm (reqOf p (rawSlot p m to d n))=1):newSlot p m to d n=rawSlot p m to d n:=by
 unfold newSlot;rw[G_ ⟨h,h2⟩]
abbrev Eu:Fct:=⟨[.v (.el .page),.v (.el .int),.v (.el .str),.v (.el .str),.v (.el .int)],[.el .page,.el .int],λ(x:fM)=>Al x.1<=1090000000000/\x.1.addr.host.size<=4000000000/\x.2.2.1.size<=4000000000/\x.2.2.2.1.size<=50000000000,λ(x:fM)=>((addSlot x.1 x.2.1 x.2.2.1 x.2.2.2.1 x.2.2.2.2.1).1,(addSlot x.1 x.2.1 x.2.2.1 x.2.2.2.1 x.2.2.2.2.1).2,())⟩
def Amn:=AmW.a Eu<|Fct.o (KP [1,2,3,4,5,10,11,12,13,14,15] [27,57]) AmW.2 func190 (by
 rintro⟨(p:HO),(m:Int),(to:ByteArray),(d:ByteArray),(n:Int),_⟩ hp;refine ho (let J_:=(p.bf.length:Int);.cl AW (p,()) λz2=>let R_:Out:=.lf Eu (z2.1,(-1:Int),());.br (decide (J_>=20)) R_ (.cl Cc (m,()) λ(z3:E_)=>.br (z3.1==0) R_ (.cl BE (to,p.addr.host,()) λz4=>let H_:=(⟨m,z4.1,d,n,false,(0:Int),(⟨#[]⟩:ByteArray)⟩:aw);let M_:=z2.1.bf++[H_];.ap (z2.1.bf.length+[H_].length) 96<|.br (!z4.2.1) (.ix J_ (M_.length)<|.lt (List aw) (M_.modify J_.toNat λz=>({z with done:=true}:aw)) λz5=>.ix J_ z5.length<|.lt (List aw) (z5.modify J_.toNat λz=>({z with code:=(2:Int)}:aw)) λz6=>.lf Eu ({z2.1 with bf:=z6},J_,())) (.cl DB (({z2.1 with bf:=z2.1.bf++[H_]}:HO),J_,()) λz7=>.cl Bs (p.bm,z7.1,()) λ(z8:E_)=>.br (z8.1 != 1) (.ix J_ (M_.length)<|.lt (List aw) (M_.modify J_.toNat λz=>({z with done:=true}:aw)) λz9=>.ix J_ z9.length<|.lt (List aw) (z9.modify J_.toNat λz=>({z with code:=(2:Int)}:aw)) λz10=>.lf Eu ({z2.1 with bf:=z10},J_,())) (.lf Eu ({z2.1 with bf:=z2.1.bf++[H_]},J_,())))))) ?_;repeat' first|(guard_target =~ Out.holds _ _;first|refine lfY ?_|refine Aa (λ_=>?_) λ_=>?_|refine Aj ?_ λ_=>?_|refine K6 ?_|refine EG ?_ λ_=>?_|refine CW ?_ λ_ _=>?_)|exact trivial
 all_goals (have hl:p.bf.length<=1090000000000:=by have h1:Al p<=1090000000000:=hp.1;have:=Ad AO p.bf;simp only[Al] at h1;omega)<;>(have hpo:AD p.bm<=1090000000000:=by have h1:Al p<=1090000000000:=hp.1;simp only[Al] at h1;omega)<;>(have hz:=K8 to p.addr.host;try simp only[AA] at *)<;>(try simp only[std,Nat.reduceAdd] at *)<;>(try simp only[Rp,I4,ak,aq,aU,ev] at *)<;>(first|trivial|omega|(rw[XF (by first|exact .inl o_|exact .inr ‹_›)];exact⟨rfl,rfl⟩)|rw[UE o_ ‹_›]|skip)<;>(first|exact⟨o_,by simp only[Bx,szAddr,reqOf];omega⟩|(rw[Yr (by first|exact .inl ‹_›|exact .inr ‹_›)];exact⟨rfl,rfl⟩)|(rw[UT ‹_› ‹_›];exact⟨rfl,rfl⟩)))
def fillS (p:HO) (x:L_) (s:aw):aw:=if s.done=true then s else{ s with done:=true,code:=checkResponse p.bm (reqOf p s) x,body:=(usable p.bm (reqOf p s) x).1 }
def fillSlot (p:HO) (k:Int) (x:L_):HO:=if 0<=k/\k<p.bf.length then{ p with bf:=p.bf.modify k.toNat (fillS p x)} else p
abbrev J9:Fct:=⟨[.v (.el .page),.v (.el .int),.v (.el .bd)],[.el .page],λ(x:fN)=>Al x.1<=1000000000000/\x.1.addr.host.size<=4000000000/\(∀ i,i<x.1.bf.length->AO (x.1.bf.getD i default)<=50000000000)/\-9223372036854775808<=x.2.1/\x.2.1<=9223372036854775807/\x.2.2.1.bm.size<=200000000/\x.2.2.1.body.size<=1000000000,λ(x:fN)=>(fillSlot x.1 x.2.1 x.2.2.1,())⟩
def askFrom (a:FS):List X_->Nat
 | []=>0
 | m::l=>if cmpA m.to a<0 then askFrom a l+1 else 0
def Xx {a:FS} {l:List X_} {i:Nat} (h:i<l.length):askFrom a (l.drop i)=if cmpA (l.getD i default).to a<0 then askFrom a (l.drop (i+1))+1 else 0:=by rw[B_ h];rfl
def TA {a:FS} {l:List X_} {i:Nat} (h:l.length<=i):askFrom a (l.drop i)=0:=by rw[bQ h];rfl
def newMod (p:HO) (a:FS):X_:=if checkRequest p.bm ⟨5,a,p.addr.host,⟨#[]⟩⟩=1 then⟨a,false,0,⟨#[]⟩⟩ else⟨a,true,2,⟨#[]⟩⟩
def askModule (p:HO) (a:FS):HO :=
 if askFrom a p.bi<p.bi.length/\(p.bi.getD (askFrom a p.bi) default).to=a then p
 else{ p with bi:=p.bi.take (askFrom a p.bi)++newMod p a::p.bi.drop (askFrom a p.bi)}
def AkZ {l:List X_} {i:Nat} {m:X_} (h:i<=l.length):cut l 0 i++[m]++cut l i (l.length-i)=l.take i++m::l.drop i:=by
 simp only[cut,fI,bF,cj,ew];rw[ci (l:=List.drop i l) (by simp)]
def Y6 {p:HO} {a:FS} {i:Nat} (h:askFrom a p.bi=i) (h1:i<p.bi.length) (h2:(p.bi.getD i default).to=a):askModule p a=p:=by
 unfold askModule;rw[h,G_ ⟨h1,h2⟩]
def Ah3 {p:HO} {a:FS} {i:Nat} (h:askFrom a p.bi=i) (h0:i<=p.bi.length) (h1:i=p.bi.length\/¬ (p.bi.getD i default).to=a) (m:X_) (hm:m=newMod p a):askModule p a={ p with bi:=cut p.bi 0 i++[m]++cut p.bi i (p.bi.length-i)}:=by
 unfold askModule;rw[h,F_,AkZ h0,hm];grind
def Aa7 {p:HO} {a:FS} (h:checkRequest p.bm ⟨5,a,p.addr.host,⟨#[]⟩⟩=1):(⟨a,false,0,⟨#[]⟩⟩:X_)=newMod p a:=by unfold newMod;rw[G_ h]
def ZC {p:HO} {a:FS} (h:¬ checkRequest p.bm ⟨5,a,p.addr.host,⟨#[]⟩⟩=1):(⟨a,true,2,⟨#[]⟩⟩:X_)=newMod p a:=by unfold newMod;rw[F_ h]
abbrev Fh:Fct:=⟨[.v (.el .page),.v (.el .addr)],[.el .page],λ(x:bv)=>Al x.1<=1090000000000/\x.1.addr.host.size<=4000000000/\szAddr x.2.1<=50000000000,λ(x:bv)=>(askModule x.1 x.2.1,())⟩
abbrev Bm (p:HO) (a:FS):LInv:=⟨[⟨.s,6,true,.el .int⟩,⟨.b,2,false,.el .page⟩,⟨.b,3,true,.el .addr⟩,⟨.b,4,true,.el .page⟩,⟨.b,5,true,.el .page⟩],λ(z x:dM)=>((((0<=x.1/\x.1<=p.bi.length/\x.1+askFrom a (p.bi.drop x.1.toNat)=askFrom a p.bi)/\x.2.1=z.2.1)/\x.2.2.1=z.2.2.1)/\x.2.2.2.1=z.2.2.2.1)/\x.2.2.2.2.1=z.2.2.2.2.1,λ(x:dM)=>p.bi.length-x.1.toNat⟩
def Al6:=Amn.a Fh<|Fct.p (KP [2,3,4,5,6,7,8] [26,43,55]) (λ⟨p,a,_⟩=>lv [(3,Bm p a)]) Amn.2 func121 (by
 rintro⟨(p:HO),(a:FS),_⟩ hp;refine ho (let aW:=(⟨#[]⟩:ByteArray);.cl AW (p,()) λz2=>lpx (Bm p a) ((0:Int),(p,(a,(default,(z2.1,()))))) λ(y2:dM) bk2=>let eH:=inB y2.1 y2.2.1.bi.length;let aJ:=decide (y2.1<(y2.2.1.bi.length:Int));let aK:=y2.2.1.bi.getD y2.1.toNat default;let ax:=y2.1.toNat-0;let dp:=[]++cut y2.2.2.2.2.1.bi 0 ax;let bH:=0+ax<=y2.2.2.2.2.1.bi.length;let bK:=IJ (0+(cut y2.2.2.2.2.1.bi 0 ax).length) 64;let ar:=(⟨y2.2.2.1,true,(2:Int),aW⟩:X_);let Z_:=(⟨y2.2.2.1,false,(0:Int),aW⟩:X_);let R_:=0<=y2.1/\y2.1<=(y2.2.2.2.2.1.bi.length:Int);let M_:=y2.2.2.2.2.1.bi.length-y2.1.toNat;let bS:=cut y2.2.2.2.2.1.bi y2.1.toNat M_;let cg:=y2.1.toNat+M_<=y2.2.2.2.2.1.bi.length;let H_:Out:=.cl Bs (y2.2.1.bm,(⟨(5:Int),y2.2.2.1,y2.2.1.addr.host,aW⟩:ay),()) λ(z4:E_)=>.br (z4.1 != 1) (.ob R_<|.ob bH<|.ob bK<|.ap (dp.length+[ar].length) 64<|.ob R_<|.ob cg<|.ob (IJ (([]++cut y2.2.2.2.2.1.bi 0 ax++[ar]).length+bS.length) 64)<|.lf Fh ({y2.2.2.2.2.1 with bi:=[]++cut y2.2.2.2.2.1.bi 0 ax++[ar]++cut y2.2.2.2.2.1.bi y2.1.toNat M_},())) (.ob R_<|.ob bH<|.ob bK<|.ap (dp.length+[Z_].length) 64<|.ob R_<|.ob cg<|.ob (IJ (([]++cut y2.2.2.2.2.1.bi 0 ax++[Z_]).length+bS.length) 64)<|.lf Fh ({y2.2.2.2.2.1 with bi:=[]++cut y2.2.2.2.2.1.bi 0 ax++[Z_]++cut y2.2.2.2.2.1.bi y2.1.toNat M_},()));let J_:Out:=.br aJ (.ob eH<|.br (aK.to.host==y2.2.2.1.host&&(aK.to.path==y2.2.2.1.path&&true)) (.lf Fh (y2.2.2.2.2.1,())) H_) H_;.br aJ (.ob eH<|.cl A7 (aK.to,y2.2.2.1,()) λ(z3:E_)=>.br (decide (z3.1<0)) (.bk (bk2 (w1 y2.1,(y2.2.1,(y2.2.2.1,(y2.2.2.2.1,(y2.2.2.2.2.1,()))))))) J_) J_) ?_;repeat' first|(guard_target =~ Out.holds _ _;first|refine Aq (li:=Bm p a) ?_ λ(y2:dM) i2=>?_|refine lfY ?_|refine Aa (λ_=>?_) λ_=>?_|refine Aj ?_ λ_=>?_|refine Ac ?_ λ_=>?_|refine AR ?_|refine EG ?_ λ_=>?_)|exact trivial
 all_goals (have hl:p.bi.length<=1090000000000:=by have h1:Al p<=1090000000000:=hp.1;have:=Ad Ar p.bi;simp only[Al] at h1;omega)<;>(have hpo:AD p.bm<=1090000000000/\p.addr.host.size<=50000000000:=by have h1:Al p<=1090000000000:=hp.1;have h2:p.addr.host.size<=4000000000:=hp.2.1;simp only[Al,szAddr] at h1;omega)<;>(try simp only[AA] at *)<;>(try simp only[std,Nat.reduceAdd] at *)<;>(first|trivial|omega|exact⟨o_,o_,by simp⟩|skip)<;>(try obtain⟨⟨⟨⟨⟨a1,a2,a3⟩,e1⟩,e2⟩,e3⟩,e4⟩:=i2;simp only[e1,e2,e3,e4,De,av,cy,Nat.sub_zero,ew] at *)<;>(first|trivial|omega|exact⟨o_,by simp only[Bx,szAddr] at *;show _+_+0<=_;omega⟩|skip)<;>(first|(have hc:(cut p.bi 0 y2.1.toNat).length=y2.1.toNat:=by(simp only[cut,cX,fP];omega))|skip)<;>(try simp only[hc,cE,ak,aq,aU] at *)<;>(first|trivial|omega|(simp only[cut,cX,fP];omega)|skip)<;>(first|(have e:=Xx (a:=a) (l:=p.bi) (i:=y2.1.toNat) o_;first|rw[G_ o_] at e|rw[F_ o_] at e)|(have e:=TA (a:=a) (l:=p.bi) (i:=y2.1.toNat) o_))<;>(first|(rw[Aw o_,show(y2.1+1).toNat=y2.1.toNat+1 from o_];simp only[and_true];exact⟨⟨o_,o_,o_⟩,o_⟩)|skip)<;>have e5:askFrom a p.bi=y2.1.toNat:=o_<;>(first|(rw[Y6 e5 o_ ‹_›])|(rw[Ah3 e5 o_ (by first|exact .inr ‹_›|exact .inl o_) _ (by first|exact Aa7 ‹_›|exact ZC ‹_›)])))
def Aam (f:X_->X_) (m:X_) (B:List X_):∀ A:List X_,(A++[m]++B).modify A.length f=A++[f m]++B
 | []=>rfl
 | a::A=>cB (List.cons a) (Aam f m B A)
def addEntry (p:HO) (to:ByteArray):HO :=
 if(parseAddr to p.addr.host).2=true/\p.bh.length<20 then{ askModule p (parseAddr to p.addr.host).1 with bh:=p.bh++[(parseAddr to p.addr.host).1]} else p
def AiD (p:HO) (a:FS) (l:List FS):askModule { p with bh:=l } a={ askModule p a with bh:=l }:=by
 unfold askModule newMod;split<;>rfl
def TW (p:HO) (a:FS):(askModule p a).bh=p.bh:=by unfold askModule;split<;>rfl
abbrev JJ:Fct:=⟨[.v (.el .page),.v (.el .str)],[.el .page],λ(x:dy)=>Al x.1<=1050000000000/\x.1.addr.host.size<=4000000000/\x.2.1.size<=4000000000,λ(x:dy)=>(addEntry x.1 x.2.1,())⟩
def Am9:=Al6.a JJ<|Fct.o (KP [1,2,4,5,6,7] [23]) Al6.2 func192 (by
 rintro⟨(p:HO),(to:ByteArray),_⟩ hp;refine ho (let H_:Out:=.cl AW (p,()) λz3=>.lf JJ (z3.1,());.cl BE (to,p.addr.host,()) λz2=>.br (!z2.2.1) H_ (.br (decide ((p.bh.length:Int)>=20)) H_ (.cl Fh (p,z2.1,()) λz5=>.ap (z5.1.bh.length+[z2.1].length) 32<|.lf JJ ({z5.1 with bh:=z5.1.bh++[z2.1]},())))) ?_;refine Aj ?_ λ_=>(Aa (λh2=>Aj ?_ λ_=>lfY ?_) λh2=>Aa (λh4=>Aj ?_ λ_=>lfY ?_) λh4=>Aj ?_ λ_=>EG ?_ λ_=>lfY ?_)<;>(have hl:szL szAddr p.bh+1<=1050000000001:=by have h1:Al p<=1050000000000:=hp.1;simp only[Al] at h1;omega)<;>(have hl2:=Ad szAddr p.bh;have hz:=K8 to p.addr.host;have hs:Al { p with bh:=p.bh++[(parseAddr to p.addr.host).1]}<=Al p+szAddr (parseAddr to p.addr.host).1+1:=by simp only[Al,B0,Ah,show szL szAddr []=0 from rfl];omega)<;>(have ha:szAddr (parseAddr to p.addr.host).1<=16000000000:=by simp only[szAddr];have q1:p.addr.host.size<=4000000000:=hp.2.1;have q2:to.size<=4000000000:=hp.2.2;omega)<;>(try simp only[AA] at *)<;>(try simp only[std,Nat.reduceAdd,AiD,TW] at *)<;>(first|trivial|omega|skip)<;>unfold addEntry<;>(first|rw[G_ ⟨‹_›,o_⟩]|rw[F_ (by rintro⟨q1,q2⟩;first|omega|(rw[show(parseAddr to p.addr.host).2=false from ‹_›] at q1;cases q1))]))
def element (p:HO) (t:af) (n:Int):HO :=
 if t.name=⟨#[108,105,110,107]⟩/\(findAttr t.bq ⟨#[104,114,101,102]⟩).isSome=true then(addSlot p 2 ((findAttr t.bq ⟨#[104,114,101,102]⟩).getD ⟨#[]⟩) ((findAttr t.bq ⟨#[100,105,103,101,115,116]⟩).getD ⟨#[]⟩) n).1
 else if t.name=⟨#[105,109,103]⟩/\(findAttr t.bq ⟨#[115,114,99]⟩).isSome=true then(addSlot p 1 ((findAttr t.bq ⟨#[115,114,99]⟩).getD ⟨#[]⟩) ((findAttr t.bq ⟨#[100,105,103,101,115,116]⟩).getD ⟨#[]⟩) n).1
 else p
abbrev Et:GS:=⟨[.g (.el .page),.i 8 (.el .token),.l (.v (.el .int))],[.el .page],λ(x:fO)=>Al x.1<=1050000000000/\x.1.addr.host.size<=4000000000/\szToken x.2.1<=4000000000,λ(x:fO)=>((element x.1 x.2.1 x.2.2.1,()),(()))⟩
def Amy:=Am9.G Et<|GS.of (S:=Et) (L:=λ_ _=>none) (kp:=(KP [2,3,4,6,7,9,10,11,12] [30,50])) Am9.2 func144 k_ k_ (by
 rintro⟨(p:HO),(t:af),(n:Int),_⟩ hp;refine ho (let Z_:=GS.out Et ((p,()),(()));let R_:=(⟨#[115,114,99]⟩:ByteArray);let J_:=t.name.toList==(⟨#[105,109,103]⟩:ByteArray).toList;.cl AM (t.bq,(⟨#[100,105,103,101,115,116]⟩:ByteArray),()) λz2=>let H_:Out:=.cl AM (t.bq,R_,()) λz7=>.br (z7.2.1) (.br J_ (.cl Eu (p,(1:Int),z7.1,z2.1,n,()) λ(z8:bW)=>GS.out Et ((z8.1,()),(()))) Z_) Z_;.cl AM (t.bq,(⟨#[104,114,101,102]⟩:ByteArray),()) λz3=>.br (z3.2.1) (.br (t.name.toList==(⟨#[108,105,110,107]⟩:ByteArray).toList) (.cl Eu (p,(2:Int),z3.1,z2.1,n,()) λ(z4:bW)=>let M_:=GS.out Et ((z4.1,()),(()));.cl AM (t.bq,R_,()) λz5=>.br (z5.2.1) (.br J_ (.cl Eu (z4.1,(1:Int),z5.1,z2.1,n,()) λ(z6:bW)=>GS.out Et ((z6.1,()),(()))) M_) M_) H_) H_) ?_;repeat' (guard_target =~ Out.holds _ _;first|refine GS.leafY ?_|refine Aa (λ_=>?_) λ_=>?_|refine Aj ?_ λ_=>?_)
 all_goals
  have h1:=Bk t.bq ⟨#[104,114,101,102]⟩;have h2:=Bk t.bq ⟨#[115,114,99]⟩;have h3:=Bk t.bq ⟨#[100,105,103,101,115,116]⟩;have h4:szL BH t.bq<=4000000000/\t.bq.length<=4000000000:=by have q:=hp.2.2;have:=Ad BH t.bq;simp only[szToken] at q;omega
  try simp only[AA] at *
  try simp only[std,Nat.reduceAdd,element] at *
  try simp(disch:=omega) only[A_,C_] at *
  try simp(disch:=omega) only[G_,F_]
 all_goals first|trivial|omega|grind[A_,C_,B_,K_,I_,maxLen,element])
def script (p:HO) (n:Int):HO :=
 if(findAttr (p.ba.bj.getD n.toNat default).bq ⟨#[115,114,99]⟩).isSome=false then(if allowsInline p.bm ((findAttr (p.ba.bj.getD n.toNat default).bq ⟨#[110,111,110,99,101]⟩).getD ⟨#[]⟩)=true then{ p with inline:=n } else p)
 else if(findAttr (p.ba.bj.getD n.toNat default).bq ⟨#[107,105,110,100]⟩).getD ⟨#[]⟩=⟨#[100,101,102,101,114]⟩ then(addSlot p 4 ((findAttr (p.ba.bj.getD n.toNat default).bq ⟨#[115,114,99]⟩).getD ⟨#[]⟩) ((findAttr (p.ba.bj.getD n.toNat default).bq ⟨#[100,105,103,101,115,116]⟩).getD ⟨#[]⟩) n).1
 else if(findAttr (p.ba.bj.getD n.toNat default).bq ⟨#[107,105,110,100]⟩).getD ⟨#[]⟩=⟨#[109,111,100,117,108,101]⟩ then addEntry p ((findAttr (p.ba.bj.getD n.toNat default).bq ⟨#[115,114,99]⟩).getD ⟨#[]⟩)
 else{ (addSlot p 3 ((findAttr (p.ba.bj.getD n.toNat default).bq ⟨#[115,114,99]⟩).getD ⟨#[]⟩) ((findAttr (p.ba.bj.getD n.toNat default).bq ⟨#[100,105,103,101,115,116]⟩).getD ⟨#[]⟩) n).1 with block:=(addSlot p 3 ((findAttr (p.ba.bj.getD n.toNat default).bq ⟨#[115,114,99]⟩).getD ⟨#[]⟩) ((findAttr (p.ba.bj.getD n.toNat default).bq ⟨#[100,105,103,101,115,116]⟩).getD ⟨#[]⟩) n).2+1 }
def HE (p:HO):szL szToken p.bp+szBuilder p.ba+szL AO p.bf+szL Ar p.bi+szL szAddr p.bh+szL szAddr p.ran+szL Ag p.log+AD p.bm+szAddr p.addr<=Al p:=by simp only[Al];omega
def O0 (p:HO) (m:Int) (to d:ByteArray) (n:Int) : -1<=(addSlot p m to d n).2/\(addSlot p m to d n).2<=20:=by
 unfold addSlot;grind
def OL (l:List cP) (n:Nat) (h:n<l.length):szL BH (l.getD n default).bq<=szL AF l:=by
 have:=Ct AF (l:=l) h;simp only[AF] at *;omega
abbrev Dk:GS:=⟨[.g (.el .page),.l (.v (.el .int))],[.el .page],λ(x:bW)=>Al x.1<=1050000000000/\x.1.addr.host.size<=4000000000/\szL AF x.1.ba.bj<=4000000000/\0<=x.2.1/\x.2.1<x.1.ba.bj.length,λ(x:bW)=>((script x.1 x.2.1,()),(()))⟩
def Am2:=Amy.G Dk<|GS.of (S:=Dk) (L:=λ_ _=>none) (kp:=(KP [1,2,4,5,6,7,8,10,12,14,15] [55,61,64,75])) Amy.2 func145 k_ k_ (by
 rintro⟨(p:HO),(n:Int),_⟩ hp;refine ho (let H_:=p.ba.bj.getD (Int.toNat n) default;.ob (inB n p.ba.bj.length)<|.ob (Int.toNat n<p.ba.bj.length)<|.cl AM (H_.bq,(⟨#[115,114,99]⟩:ByteArray),()) λz2=>.cl AM (H_.bq,(⟨#[107,105,110,100]⟩:ByteArray),()) λz3=>.cl AM (H_.bq,(⟨#[100,105,103,101,115,116]⟩:ByteArray),()) λz4=>.cl AM (H_.bq,(⟨#[110,111,110,99,101]⟩:ByteArray),()) λz5=>.br (!z2.2.1) (.cl DL (p.bm,z5.1,()) λz6=>.br (z6.1) (GS.out Dk (({p with inline:=n},()),(()))) (GS.out Dk ((p,()),(())))) (.br (z3.1.toList==(⟨#[100,101,102,101,114]⟩:ByteArray).toList) (.cl Eu (p,(4:Int),z2.1,z4.1,n,()) λ(z7:bW)=>GS.out Dk ((z7.1,()),(()))) (.br (z3.1.toList==(⟨#[109,111,100,117,108,101]⟩:ByteArray).toList) (.cl JJ (p,z2.1,()) λz8=>GS.out Dk ((z8.1,()),(()))) (.cl Eu (p,(3:Int),z2.1,z4.1,n,()) λ(z9:bW)=>GS.out Dk (({z9.1 with block:=w1 z9.2.1},()),(())))))) ?_;repeat' first|(guard_target =~ Out.holds _ _;first|refine GS.leafY ?_|refine Aa (λ_=>?_) λ_=>?_|refine Aj ?_ λ_=>?_|refine Ac ?_ λ_=>?_)|exact trivial
 all_goals (have hn:=OL p.ba.bj n.toNat (by have q1:0<=n:=hp.2.2.2.1;have q2:n<p.ba.bj.length:=hp.2.2.2.2;omega);have hn2:=Ad BH (p.ba.bj.getD n.toNat default).bq)<;>generalize hat:(p.ba.bj.getD n.toNat default).bq=at_ at *<;>(have h1:=Bk at_ ⟨#[110,111,110,99,101]⟩;have h2:=Bk at_ ⟨#[115,114,99]⟩;have h3:=Bk at_ ⟨#[100,105,103,101,115,116]⟩;have h4:=λm to d=>O0 p m to d n)<;>(try simp only[AA] at *)<;>(try simp only[std,Nat.reduceAdd,script] at *)<;>(try simp(disch:=omega) only[A_,C_] at *)<;>(try simp(disch:=omega) only[G_,F_])<;>(first|trivial|omega|grind[A_,C_,B_,K_,I_,maxLen,script]))
def isScript (p:HO) (t:af):Bool:=decide (t.kind=2)&&(decide (t.name=⟨#[115,99,114,105,112,116]⟩)&&(decide (0<p.ba.bn.length/\1<=lastOpen p.ba/\lastOpen p.ba<p.ba.bj.length)&&decide ((p.ba.bj.getD (lastOpen p.ba).toNat default).name=⟨#[115,99,114,105,112,116]⟩)))
def taken (p:HO) (t:af):HO:={ p with bp:=p.bp.drop 1,ba:=(addToken p.ba t).1 }
def takeTok (p:HO) (t:af):HO :=
 if t.kind=1/\0<=(addToken p.ba t).2 then element (taken p t) t (addToken p.ba t).2
 else if isScript p t=true then script (taken p t) (lastOpen p.ba)
 else taken p t
def takeToken (p:HO):HO×Bool:=if p.bp.length=0\/p.block≠0\/p.inline≠0 then(p,false) else(takeTok p (p.bp.getD 0 default),true)
def Ahw {l:List af}:cut l 1 (l.length-1)=l.drop 1:=by
 unfold cut;rw[ci (by simp)]
def AeR (p:HO) (t:af):(⟨p.addr,p.bm,p.tok,cut p.bp 1 (p.bp.length-1),p.ended,(addToken p.ba t).1,p.bf,p.bi,p.bh,p.block,p.inline,p.bo,p.bu,p.ran,p.log,p.loaded⟩:HO)=taken p t:=by rw[Ahw];rfl
def Ks (b:aj) (n:ByteArray):∀ k,k<=b.bn.length->(closeN b n k).length<=b.bn.length
 | 0,_=>Y_ _
 | 1,_=>Y_ _
 | m+2,h=>by
  rw[closeN];split
  ·grind
  ·exact Ks b n (m+1) o_
def NR (b:aj) (t:af):szL AF (addToken b t).1.bj<=szL AF b.bj+szToken t+1/\(addToken b t).1.bn.length<=b.bn.length+1/\(t.kind=2->(addToken b t).1.bj=b.bj):=by
 have h0:szL AF []=0:=rfl;have h2:szL BH []=0:=rfl;have h3:ByteArray.size ⟨#[]⟩=0:=rfl;unfold addToken;split
 ·have:=Ks b t.name _ (Y_ _);exact⟨by show szL AF b.bj<=_;omega,by show(closeN b t.name b.bn.length).length<=_;omega,λ_=>rfl⟩
 ·split
  ·split
   ·refine⟨?_,?_,λh=>absurd h o_⟩
    ·dsimp only;rw[B0,Ah,h0];simp only[AF,szToken,h3];omega
    ·grind
   ·refine⟨?_,?_,λh=>absurd h o_⟩
    ·dsimp only;rw[B0,Ah,h0];simp only[AF,szToken,h3,h2];omega
    ·exact Nat.le_succ _
  ·grind
def Wq (p:HO) (h:0<p.bp.length):Al (taken p (p.bp.getD 0 default))<=Al p+2/\szToken (p.bp.getD 0 default)+1+szL szToken (p.bp.drop 1)=szL szToken p.bp:=by
 have h1:=WV szToken h;rw[fI,cE] at h1;have h2:=NR p.ba (p.bp.getD 0 default);refine⟨?_,h1.symm⟩;simp only[Al,taken,szBuilder];omega
def SS {p:HO} {t:af} (h1:t.kind=2) (h2:t.name=⟨#[115,99,114,105,112,116]⟩) (h3:0<p.ba.bn.length) (h4:1<=lastOpen p.ba) (h5:lastOpen p.ba<p.ba.bj.length) (h6:(p.ba.bj.getD (lastOpen p.ba).toNat default).name=⟨#[115,99,114,105,112,116]⟩):isScript p t=true:=by
 unfold isScript;rw[bR h1,bR h2,bR ⟨h3,h4,h5⟩,bR h6];rfl
def Uv {p:HO} {t:af} (h:¬ t.kind=2\/¬ t.name=⟨#[115,99,114,105,112,116]⟩\/¬ (0<p.ba.bn.length/\1<=lastOpen p.ba/\lastOpen p.ba<p.ba.bj.length)\/¬ (p.ba.bj.getD (lastOpen p.ba).toNat default).name=⟨#[115,99,114,105,112,116]⟩):¬ isScript p t=true:=by
 unfold isScript;grind
def Yo {p:HO} {t:af} (h1:t.kind=1) (h2:0<=(addToken p.ba t).2):takeTok p t=element (taken p t) t (addToken p.ba t).2:=by unfold takeTok;rw[G_ ⟨h1,h2⟩]
def XX {p:HO} {t:af} (h1:t.kind=2) (h2:isScript p t=true):takeTok p t=script (taken p t) (lastOpen p.ba):=by unfold takeTok;rw[F_ o_,G_ h2]
def XU {p:HO} {t:af} (h1:¬ t.kind=1\/(addToken p.ba t).2<0) (h2:¬ isScript p t=true):takeTok p t=taken p t:=by unfold takeTok;rw[F_ o_,F_ h2]
def okTok (p:HO):Prop:=Al p<=1000000000000/\p.addr.host.size<=4000000000/\(∀ i,i<p.bp.length->szToken (p.bp.getD i default)<=1000000000)/\szL AF p.ba.bj<=1000000000/\p.ba.bn.length<=1000000000
abbrev B3:Fct:=⟨[.v (.el .page)],[.el .page,.el .bool],λ(x:ai)=>okTok x.1,λ(x:ai)=>((takeToken x.1).1,(takeToken x.1).2,())⟩
def Ani:=Am2.a B3<|Fct.o (KP [1,2,3,4,5,6,7,8] [24,38,64,95]) Am2.2 func108 (by
 rintro⟨(p:HO),_⟩ hp;refine ho (let gV:=(p.ba.bn.length:Int);let bK:=(p.ba.bj.length:Int);let fU:=bK-(1:Int);let gZ:=(0:Int)<=(-1:Int)/\(-1:Int)<bK;let ax:=(⟨#[115,99,114,105,112,116]⟩:ByteArray);let hJ:=(p.ba.bj.getD 0 default).name.toList==ax.toList;let M_:=gV-(1:Int);let bS:=0<=p.ba.bn.getD (wr M_).toNat default/\p.ba.bn.getD (wr M_).toNat default<bK;let bH:=(p.ba.bj.getD (p.ba.bn.getD (wr M_).toNat default).toNat default).name.toList==ax.toList;.cl AW (p,()) λz2=>let hP:=(z2.1.bp.length:Int);let gW:Out:=.lf B3 (z2.1,false,());let aK:=z2.1.bp.getD 0 default;let fV:=aK.kind==2;let fW:=aK.name.toList==ax.toList;let R_:=z2.1.bp.length-1;let aW:=1+R_<=z2.1.bp.length;.br ((p.bp.length:Int)==0) gW (.br (p.block != 0) gW (.br (p.inline != 0) gW (.ob ((0:Int)<=(0:Int)/\(0:Int)<hP)<|.ob (0<z2.1.bp.length)<|.ob ((0:Int)<=(1:Int)/\(1:Int)<=hP)<|.br (decide (gV>0)) (.ob (0<=wr M_/\wr M_<gV)<|.cl CN (p.ba,z2.1.bp.getD 0 default,()) λ(z3:ft)=>let aJ:=({z2.1 with bp:=cut z2.1.bp 1 R_,ba:=z3.1}:HO);let ar:Out:=.ob aW<|.lf B3 ({z2.1 with bp:=cut z2.1.bp 1 R_,ba:=z3.1},true,());let H_:Out:=.br fV (.br fW (.cl AC (p.ba.bn.getD (wr M_).toNat default,(1:Int),wr fU,()) λz7=>.br (z7.1) (.ob bS<|.br bH (.ob aW<|.ob (Dk.pre (aJ,p.ba.bn.getD (wr M_).toNat default,()))<|.lt _ (Dk.fn (aJ,p.ba.bn.getD (wr M_).toNat default,())) λz8=>.lf B3 (z8.1.1,true,())) ar) ar) ar) ar;.br (aK.kind==1) (.br (decide (z3.2.1>=0)) (.ob aW<|.ob (Et.pre (aJ,z2.1.bp.getD 0 default,z3.2.1,()))<|.lt _ (Et.fn (aJ,z2.1.bp.getD 0 default,z3.2.1,())) λz4=>let eH:Out:=.lf B3 (z4.1.1,true,());.br fV (.br fW (.cl AC (p.ba.bn.getD (wr M_).toNat default,(1:Int),wr fU,()) λz5=>.br (z5.1) (.ob bS<|.br bH (.ob (Dk.pre (z4.1.1,p.ba.bn.getD (wr M_).toNat default,()))<|.lt _ (Dk.fn (z4.1.1,p.ba.bn.getD (wr M_).toNat default,())) λz6=>.lf B3 (z6.1.1,true,())) eH) eH) eH) eH) H_) H_) (.cl CN (p.ba,z2.1.bp.getD 0 default,()) λ(z11:ft)=>let cg:=({z2.1 with bp:=cut z2.1.bp 1 R_,ba:=z11.1}:HO);let Z_:Out:=.ob aW<|.lf B3 ({z2.1 with bp:=cut z2.1.bp 1 R_,ba:=z11.1},true,());let J_:Out:=.br fV (.br fW (.cl AC ((-1:Int),(1:Int),wr fU,()) λz15=>.br (z15.1) (.ob gZ<|.br hJ (.ob aW<|.ob (Dk.pre (cg,(-1:Int),()))<|.lt _ (Dk.fn (cg,(-1:Int),())) λz16=>.lf B3 (z16.1.1,true,())) Z_) Z_) Z_) Z_;.br (aK.kind==1) (.br (decide (z11.2.1>=0)) (.ob aW<|.ob (Et.pre (cg,z2.1.bp.getD 0 default,z11.2.1,()))<|.lt _ (Et.fn (cg,z2.1.bp.getD 0 default,z11.2.1,())) λz12=>let dp:Out:=.lf B3 (z12.1.1,true,());.br fV (.br fW (.cl AC ((-1:Int),(1:Int),wr fU,()) λz13=>.br (z13.1) (.ob gZ<|.br hJ (.ob (Dk.pre (z12.1.1,(-1:Int),()))<|.lt _ (Dk.fn (z12.1.1,(-1:Int),())) λz14=>.lf B3 (z14.1.1,true,())) dp) dp) dp) dp) J_) J_))))) ?_;repeat' first|(guard_target =~ Out.holds _ _;first|refine lfY ?_|refine Aa (λ_=>?_) λ_=>?_|refine Aj ?_ λ_=>?_|refine Ac ?_ λ_=>?_|refine K6 ?_)|exact trivial
 all_goals have hpp:=HE p<;>obtain⟨hp1,hp2,hp3,hp4,hp7⟩:=(show okTok p from hp)<;>(have hl1:=Ad AF p.ba.bj;have hl2:szBuilder p.ba<=2000000000:=by(unfold szBuilder;omega))<;>(try simp only[AA] at *)<;>(try simp only[std,Nat.reduceAdd,inRange] at *)<;>(first|trivial|omega|(unfold takeToken;(first|rw[G_ (by exact .inl o_)]|rw[G_ (by exact .inr (.inl ‹_›))]|rw[G_ (by exact .inr (.inr ‹_›))]);exact⟨rfl,rfl⟩)|skip)<;>(have htz:=Wq p o_;have ht0:=hp3 0 o_;have haz:=NR p.ba (p.bp.getD 0 default);try simp only[Aw (show -9223372036854775808<=(p.ba.bn.length:Int)-1/\(p.ba.bn.length:Int)-1<=9223372036854775807 from o_),Aw (show -9223372036854775808<=(p.ba.bj.length:Int)-1/\(p.ba.bj.length:Int)-1<=9223372036854775807 from o_),No,AeR] at *)<;>(first|trivial|omega|skip)<;>(try rw[show takeToken p=(takeTok p (p.bp.getD 0 default),true) by(unfold takeToken;rw[F_ o_])])<;>generalize p.bp.getD 0 default=t at *<;>(try simp only[show(taken p t).addr=p.addr from rfl,show(taken p t).ba=(addToken p.ba t).1 from rfl] at *)<;>(first|trivial|omega|skip)<;>(try simp only[S_,fX,av,cy,and_true] at *)<;>(first|trivial|omega|skip)<;>(try have hnn:(addToken p.ba t).1.bj=p.ba.bj:=haz.2.2 ‹_›;rw[hnn])<;>(first|trivial|omega|skip)<;>(first|rw[Yo ‹_› o_]|rw[XX ‹_› (SS ‹_› ‹_› o_ o_ o_ ‹_›)]|rw[XU (by first|exact .inl ‹_›|exact .inr o_) (Uv (by first|exact .inl o_|exact .inr (.inl ‹_›)|exact .inr (.inr (.inl o_))|exact .inr (.inr (.inr ‹_›))))]))
def blk (p:HO):Int:=IntKind.i64.wrap (p.block-1)
def okParse (p:HO):Prop:=okTok p/\szL AO p.bf<=40000000000/\okBod p
def stepInline (p:HO):HO×Bool:=if stylesReady p.bf=true then({ runCode p (textOf p.inline p.ba.bj ⟨#[]⟩) true with inline:=0 },true) else(p,false)
def stepBlock (p:HO):HO×Bool :=
 if ¬ (0<=blk p/\blk p<p.bf.length) then({ p with block:=0 },true)
 else if(p.bf.getD (blk p).toNat default).done=false\/stylesReady p.bf=false then(p,false)
 else if(p.bf.getD (blk p).toNat default).code=1 then({ runCode p (p.bf.getD (blk p).toNat default).body true with block:=0 },true)
 else({ p with block:=0 },true)
def stepParser (p:HO):HO×Bool:=if p.inline≠0 then stepInline p else if p.block≠0 then stepBlock p else takeToken p
def Nk (n:Int):∀ (l:List cP) (s:ByteArray),(textOf n l s).size<=s.size+szL AF l
 | [],s=>cO _ _
 | x::l,s=>by
  rw[textOf,Ah];split
  ·have:=Nk n l (s++x.text);rw[aN] at this;simp only[AF];omega
  ·have:=Nk n l s;omega
def tf {b:Bool} (h:b=true) (h2:b=false):False:=by rw[h] at h2;cases h2
def Ab2 (p:HO):IntKind.i64.wrap (p.block-1)=blk p:=rfl
abbrev CM:Fct:=⟨[.v (.el .page)],[.el .page,.el .bool],λ(x:ai)=>okParse x.1,λ(x:ai)=>((stepParser x.1).1,(stepParser x.1).2,())⟩
def Am1:=Ani.a CM<|Fct.o (KP [1,2,3,4,5,6,7] [10,13,27,37,53,64]) Ani.2 func64 (by
 rintro⟨(p:HO),_⟩ hp;refine ho (let Z_:=(p.bf.length:Int);let R_:=p.block-(1:Int);let M_:=p.bf.getD (wr R_).toNat default;let J_:Out:=.cl AW (p,()) λz3=>.lf CM (z3.1,false,());let H_:=0<=wr R_/\wr R_<Z_;.br (p.inline != 0) (.cl CK (p,()) λz2=>.br (!z2.1) J_ (.cl TX (p.ba,p.inline,()) λz4=>.cl FQ (p,z4.1,true,()) λz5=>.lf CM ({z5.1 with inline:=(0:Int)},true,()))) (.br (p.block != 0) (.cl AC (wr R_,(0:Int),wr (Z_-(1:Int)),()) λz6=>.br (!z6.1) (.cl AW (p,()) λz7=>.lf CM ({z7.1 with block:=(0:Int)},true,())) (.ob H_<|.br (!M_.done) J_ (.cl CK (p,()) λz9=>.br (!z9.1) J_ (.cl AW (p,()) λz11=>.ob H_<|.br (M_.code==1) (.ob H_<|.cl FQ (p,M_.body,true,()) λz12=>.lf CM ({z12.1 with block:=(0:Int)},true,())) (.lf CM ({z11.1 with block:=(0:Int)},true,())))))) (.cl B3 (p,()) λz13=>.lf CM (z13.1,z13.2.1,())))) ?_;repeat' first|(guard_target =~ Out.holds _ _;first|refine lfY ?_|refine Aa (λ_=>?_) λ_=>?_|refine Aj ?_ λ_=>?_|refine Ac ?_ λ_=>?_)|exact trivial
 all_goals obtain⟨hp0,hp6,hp5⟩:=(show okParse p from hp)<;>obtain⟨hp1,hp2,hp3,hp4,hp7⟩:=(show okTok p from hp0)<;>(have hbb:szBuilder p.ba<=2000000000:=by(unfold szBuilder;omega))<;>(have hpp:=HE p;have hsl:=Ad AO p.bf;have hnl:=Ad AF p.ba.bj;have htx:=Nk p.inline p.ba.bj ⟨#[]⟩)<;>rw[show ByteArray.size ⟨#[]⟩=0 from rfl] at htx<;>(try simp only[std,Nat.reduceAdd,inRange,Ab2] at *)<;>(try simp only[Ab2,S_,fX,av,cy,Aw (show -9223372036854775808<=(p.bf.length:Int)-1/\(p.bf.length:Int)-1<=9223372036854775807 from o_)] at *)<;>(first|trivial|omega|exact hp0|exact⟨o_,o_,o_,hp5 _ o_,hp5⟩|exact⟨o_,o_,o_,o_,hp5⟩|skip)<;>unfold stepParser<;>(first|rw[G_ ‹_›]|(rw[F_ o_];first|rw[G_ ‹_›]|rw[F_ o_]))<;>(first|exact⟨rfl,rfl⟩|(unfold stepInline)|(unfold stepBlock))<;>(repeat first|rw[G_ ‹_›]|rw[F_ (by intro q;first|exact tf q ‹_›|exact tf ‹_› q)]|rw[G_ o_]|rw[F_ o_]|rw[G_ (by exact .inl ‹_›)]|rw[G_ (by exact .inr ‹_›)]|rw[F_ (by rintro(q|q)<;>exact tf ‹_› q)]|fail)<;>exact⟨rfl,rfl⟩)
def Uk {b:UInt8} {s:ByteArray} (hl:idxB b s<(toL s).length):(toL s)[idxB b s]=b:=by
 have hg:=List.findIdx_getElem (xs:=toL s) (p:=λx=>x==b) (w:=hl);exact cY.1 hg
def WS {b:UInt8} {s:ByteArray} (h:idxB b s<s.size):Ge b (toL s)=some ((toL s).take (idxB b s),(toL s).drop (idxB b s+1)):=by
 have hl:idxB b s<(toL s).length:=h;refine AcQ h ?_ ?_
 ·have hd:=Kc h;rw[List.drop_eq_getElem_cons hl] at hd;injection hd with hd
  rw[<-hd];exact Uk hl
 ·intro hm;obtain⟨j,hj,he⟩:=List.mem_take_iff_getElem.1 hm;have:=List.not_of_lt_findIdx (xs:=toL s) (p:=λx=>x==b) (i:=j) (show j<(toL s).findIdx _ from fE hj (Nat.min_le_left _ _));simp_all
def Ze {b:UInt8} {s:ByteArray} (h:¬ idxB b s<s.size):Ge b (toL s)=none:=by
 refine Nc λhm=>h ?_
 unfold idxB;rw[<-AN];simp_all
def Akz (s:ByteArray) (i:Nat):ofL ((toL s).take i)=s.extract 0 i:=by
 rw[<-AH (s.extract 0 i),Az,fI]
def Uf (s:ByteArray) (i:Nat):ofL ((toL s).drop i)=s.extract i s.size:=by
 rw[<-AH (s.extract i s.size),Az,ci (by rw[AN];exact Y_ _)]
def I0 (b:UInt8) (s:ByteArray):spl b s=if idxB b s<s.size then s.extract 0 (idxB b s)::spl b (s.extract (idxB b s+1) s.size) else[s]:=by
 rw[FG];split
 ·rename_i hc;rw[F_];intro h;rw[WS h] at hc;cases hc
 ·rename_i p q hc;by_cases h:idxB b s<s.size
  ·rw[G_ h];rw[WS h] at hc;obtain⟨rfl,rfl⟩:=Prod.mk.inj (Option.some.inj hc);rw[Akz,Uf]
  ·rw[Ze h] at hc;cases hc
def gl59:List ByteArray->ByteArray
 | []=>⟨#[]⟩
 | [w]=>w
 | w::x::l=>w++⟨#[59]⟩++gl59 (x::l)
def AhP (w:ByteArray) {l:List ByteArray} (h:l≠[]):gl59 (w::l)=w++⟨#[59]⟩++gl59 l:=by
 cases l with
 | nil=>exact absurd rfl h
 | cons x l=>rfl
def Aet {b:UInt8} {s:ByteArray} (h:idxB b s<s.size):s.extract 0 (idxB b s)++⟨#[b]⟩++s.extract (idxB b s+1) s.size=s:=by
 have hl:idxB b s<(toL s).length:=h;have e:toL s=(toL s).take (idxB b s)++b::(toL s).drop (idxB b s+1):=by have e2:(toL s)[idxB b s]=b:=Uk hl;have:=(di (idxB b s) (toL s)).symm;rw[List.drop_eq_getElem_cons hl,e2] at this;exact this
 rw[<-Akz,<-Uf];have e3:(⟨#[b]⟩:ByteArray)=ofL [b]:=rfl;rw[e3,<-CR,<-CR,bF,List.singleton_append,<-e,AH]
def Akt (b:UInt8) (s:ByteArray):spl b s≠[]:=by
 intro h;have:=(Fy b s).1;simp_all
def Ag7:∀ (n:Nat) (s:ByteArray),s.size<=n->gl59 (spl 59 s)=s
 | 0,s,hn=>by
  rw[I0,F_ o_];rfl
 | n+1,s,hn=>by
  rw[I0];by_cases h:idxB 59 s<s.size
  ·rw[G_ h,AhP _ (Akt _ _),Ag7 n _ (by rw[cZ];omega)];exact Aet h
  ·rw[F_ h];rfl
def impW:ByteArray:=⟨#[105,109,112,111,114,116,32]⟩
def hasImp (w:ByteArray):Prop:=7<=w.size/\w.extract 0 7=impW
instance (w:ByteArray):Decidable (hasImp w):=by unfold hasImp;exact inferInstance
def pmGo (b:ByteArray):List ByteArray->List FS->List FS×List bM×Bool
 | [],acc=>(acc,[],true)
 | w::l,acc=>
  if hasImp w then(if(parseAddr (w.extract 7 w.size) b).2=true then pmGo b l (acc++[(parseAddr (w.extract 7 w.size) b).1]) else([],[],false))
  else if(parseScript (gl59 (w::l))).2=true then(acc,(parseScript (gl59 (w::l))).1,true) else([],[],false)
def parseModule (s b:ByteArray):List FS×List bM×Bool:=pmGo b (spl 59 s) []
def AhG:parseScript ⟨#[]⟩=([],true):=rfl
def Ak9 (b:ByteArray) (acc:List FS):pmGo b (spl 59 ⟨#[]⟩) acc=(acc,[],true):=by
 rfl
def Aej (s b:ByteArray):pmGo b (spl 59 s) []=parseModule s b:=rfl
def AcU {s:ByteArray} (h:hasImp s):7<=idxB 59 s:=by
 obtain⟨h1,h2⟩:=h;have e:(toL s).take 7=toL impW:=by rw[<-h2,Az,fI]
 have hn:(59:UInt8)∉(toL s).take 7:=by rw[e];decide
 rcases Nat.lt_or_ge (idxB 59 s) 7 with h3|h3
 ·exfalso;have h4:idxB 59 s<s.size:=o_
  have hl:idxB 59 s<(toL s).length:=h4;apply hn;rw[List.mem_take_iff_getElem];exact⟨idxB 59 s,o_,Uk hl⟩
 ·exact h3
def QZ {s:ByteArray} (h:idxB 59 s<s.size):hasImp (s.extract 0 (idxB 59 s))↔hasImp s:=by
 have hx:7<=idxB 59 s->(s.extract 0 (idxB 59 s)).extract 0 7=s.extract 0 7:=λh7=>by apply ByteArray.ext;simp_all
 constructor
 ·rintro⟨h1,h2⟩;rw[cZ] at h1;exact⟨o_,by rw[<-h2,hx o_]⟩
 ·intro hs;have h7:=AcU hs;exact⟨by rw[cZ];omega,by rw[hx h7];exact hs.2⟩
def Ab3 {s:ByteArray} {k:Nat}:(s.extract 0 k).extract 7 (s.extract 0 k).size=s.extract 7 k:=by
 apply ByteArray.ext;apply Array.ext';have e1:=Az (s.extract 0 k) 7 (s.extract 0 k).size;have e2:=Az s 0 k;have e3:=Az s 7 k;rw[ci (by rw[AN];exact Y_ _),e2,fI] at e1;exact e1.trans e3.symm
def Ahl {b s:ByteArray} {acc:List FS} (h:hasImp s) (h2:(parseAddr (s.extract 7 (idxB 59 s)) b).2=true):pmGo b (spl 59 s) acc=pmGo b (spl 59 (s.extract (min s.size (idxB 59 s+1)) s.size)) (acc++[(parseAddr (s.extract 7 (idxB 59 s)) b).1]):=by
 by_cases hk:idxB 59 s<s.size
 ·rw[I0,G_ hk,pmGo,G_ ((QZ hk).2 h),Ab3,G_ h2,Nat.min_eq_right o_]
 ·have e:idxB 59 s=s.size:=by have:=IY 59 s;omega
  rw[I0,F_ hk,pmGo,G_ h];rw[e] at h2 ⊢;rw[G_ h2,Nat.min_eq_left o_];have e0:s.extract s.size s.size=⟨#[]⟩:=by rw[<-Uf,bQ (by rw[AN];exact Y_ _)];rfl
  rw[e0,Ak9];rfl
def Akq {b s:ByteArray} {acc:List FS} (h:hasImp s) (h2:(parseAddr (s.extract 7 (idxB 59 s)) b).2=false):pmGo b (spl 59 s) acc=([],[],false):=by
 by_cases hk:idxB 59 s<s.size
 ·rw[I0,G_ hk,pmGo,G_ ((QZ hk).2 h),Ab3,F_ (by rw[h2];decide)]
 ·have e:idxB 59 s=s.size:=by have:=IY 59 s;omega
  rw[I0,F_ hk,pmGo,G_ h];simp_all
def Aj5 {b s:ByteArray} {acc:List FS} (h:¬ hasImp s):pmGo b (spl 59 s) acc=if(parseScript s).2=true then(acc,(parseScript s).1,true) else([],[],false):=by
 have hg:=Ag7 s.size s (Y_ _);rw[I0] at hg ⊢;by_cases hk:idxB 59 s<s.size
 ·rw[G_ hk] at hg ⊢;rw[pmGo,F_ λq=>h ((QZ hk).1 q),hg]
 ·rw[F_ hk] at hg ⊢;rw[pmGo,F_ h,hg]
abbrev EF:Fct:=⟨[.v (.el .str),.v (.el .str)],[.sl .addr,.sl .line,.el .bool],λ(x:dx)=>x.1.size<=4000000000/\x.2.1.size<=4000000000,λ(x:dx)=>((parseModule x.1 x.2.1).1,(parseModule x.1 x.2.1).2.1,(parseModule x.1 x.2.1).2.2,())⟩
abbrev A0 (s:ByteArray) (b:ByteArray):LInv:=⟨[⟨.s,7,true,.sl .addr⟩,⟨.s,8,false,.el .str⟩],λ_ (x:dN)=>x.2.1.size<=s.size/\x.1.length+x.2.1.size<=s.size/\pmGo b (spl 59 x.2.1) x.1=parseModule s b,λ(x:dN)=>x.2.1.size⟩
def AnG:=Am1.a EF<|Fct.p (KP [0,1,4,5,6,7,8,9,10,11,12,13] [23,35,55]) (λ⟨s,b,_⟩=>lv [(3,A0 s b)]) Am1.2 func150 (by
 rintro⟨(s:ByteArray),(b:ByteArray),_⟩ hp;refine ho (let M_:Out:=.lf EF ([],[],false,());lpx (A0 s b) ([],(s,())) λ(y1:dN) bk1=>let J_:=(y1.2.1.size:Int);let H_:Out:=.cl CQ (y1.2.1,()) λz5=>.br (!z5.2.1) M_ (.lf EF (y1.1,z5.1,true,()));.br (decide (J_>=7)) (.ob ((0:Int)<=(7:Int)/\(7:Int)<=J_)<|.br ((y1.2.1.extract 0 7).toList==(⟨#[105,109,112,111,114,116,32]⟩:ByteArray).toList) (.cl KI (y1.2.1,(59:Int),()) λ(z2:E_)=>.ob ((0:Int)<=(7:Int)/\7<=z2.1/\z2.1<=J_)<|.cl BE (y1.2.1.extract 7 z2.1.toNat,b,()) λz3=>.br (!z3.2.1) M_ (.ap (y1.1.length+[z3.1].length) 32<|.cl AjV (J_,w1 z2.1,()) λ(z4:E_)=>.ob (0<=z4.1/\z4.1<=J_)<|.re (Value.string s)<|.re (Value.string b)<|.bk (bk1 (y1.1++[z3.1],(y1.2.1.extract z4.1.toNat y1.2.1.size,()))))) H_) H_) ?_;repeat' first|(guard_target =~ Out.holds _ _;first|refine Aq (li:=A0 s b) ?_ λ(y1:dN) i1=>?_|refine lfY ?_|refine Aa (λ_=>?_) λ_=>?_|refine Aj ?_ λ_=>?_|refine Ac ?_ λ_=>?_|refine AR ?_|refine An ?_|refine EG ?_ λ_=>?_)|exact trivial
 all_goals (have hp1:s.size<=4000000000/\b.size<=4000000000:=hp;try simp only[AA] at *)<;>(try simp only[std,Nat.reduceAdd,show UInt8.ofNat (Int.toNat 59)=59 from rfl] at *)<;>(first|omega|(simp only[Aej,Y_,and_self];done)|(obtain⟨acc,x,u⟩:=y1;obtain⟨a1,a2,a3⟩:=i1;dsimp only at *;have k1:=IY 59 x))<;>(first|(have hi:hasImp x:=⟨o_,‹_›⟩;have k2:=AcU hi)|(have hi:¬ hasImp x:=by rintro⟨q1,q2⟩;first|omega|exact absurd q2 ‹_›))<;>(have k3:∀ a b,(x.extract a b).size<=x.size:=λa b=>by rw[cZ];omega)<;>(have k4:=k3 7 (idxB 59 x);have hw:IntKind.i64.wrap ((idxB 59 x:Int)+1)=(idxB 59 x:Int)+1:=Aw (by constructor<;>omega);have hm:Int.toNat (min (x.size:Int) ((idxB 59 x:Int)+1))=min x.size (idxB 59 x+1):=o_)<;>simp only[ev,hw,hm] at *<;>(first|omega|exact⟨o_,Int.ofNat_le.2 k2,Int.ofNat_le.2 k1⟩|exact⟨o_,o_⟩|skip)<;>(first|(rw[<-a3,Akq hi ‹_›];exact⟨rfl,rfl,rfl⟩)|(rw[<-a3,Aj5 hi];(first|rw[G_ ‹_›]|rw[F_ (by rw[show(parseScript x).2=false from ‹_›];decide)]);exact⟨rfl,by first|rfl|assumption,rfl⟩)|skip)<;>rw[Ahl hi ‹_›] at a3<;>refine⟨⟨aR (k3 _ _) a1,?_,a3⟩,?_⟩<;>(rw[cZ];try simp only[ak,aq,aU])<;>omega)
def isParsed (p:HO):Bool:=p.ended&&decide (p.bp.length=0/\p.block=0/\p.inline=0)
abbrev Gt:Fct:=⟨[.v (.el .page)],[.el .bool],λ(x:ai)=>True,λ(x:ai)=>(isParsed x.1,())⟩
def Anm:=AnG.a Gt<|Fct.o [1,2] AnG.2 func109 (by
 rintro⟨(p:HO),_⟩ hp;exact hg (.br (p.ended) (.br ((p.bp.length:Int)==0) (.br (p.block==0) (.lf Gt (p.inline==0,())) (.lf Gt (false,()))) (.lf Gt (false,()))) (.lf Gt (false,()))) (@isParsed.eq_1))
def deferredSlots (p:HO):List Int:=openIdx (λs=>decide (s.mode=4)) p.bf 0
abbrev F3:Fct:=⟨[.v (.el .page)],[.sl .int],λ(x:ai)=>x.1.bf.length<=1000000000000,λ(x:ai)=>(deferredSlots x.1,())⟩
abbrev Bo (p:HO):LInv:=⟨[⟨.s,3,true,.sl .int⟩,⟨.s,4,true,.el .int⟩,⟨.b,1,false,.el .page⟩],λ(z x:bO)=>(0<=x.2.1/\x.2.1<=p.bf.length/\x.1.length<=x.2.1/\x.1++openIdx (λs=>decide (s.mode=4)) (p.bf.drop x.2.1.toNat) x.2.1=deferredSlots p)/\x.2.2.1=z.2.2.1,λ(x:bO)=>p.bf.length-x.2.1.toNat⟩
def AnW:=Anm.a F3<|Fct.p (KP [1,2,3,4] [10,19]) (λ⟨p,_⟩=>lv [(3,Bo p)]) Anm.2 func110 (by
 rintro⟨(p:HO),_⟩ hp;refine ho (lpx (Bo p) ([],((0:Int),(p,()))) λ(y1:bO) bk1=>.br (decide (y1.2.1<(y1.2.2.1.bf.length:Int))) (.ob (inB y1.2.1 y1.2.2.1.bf.length)<|.br ((y1.2.2.1.bf.getD y1.2.1.toNat default).mode==4) (.ap (y1.1.length+[y1.2.1].length) 8<|.bk (bk1 (y1.1++[y1.2.1],(w1 y1.2.1,(y1.2.2.1,()))))) (.bk (bk1 (y1.1,(w1 y1.2.1,(y1.2.2.1,())))))) (.lf F3 (y1.1,()))) ?_;refine Aq ?_ λ(y1:bO) i1=>Aa (λh2=>Ac ?_ λ_=>Aa (λh4=>EG ?_ λ_=>AR ?_) λh4=>AR ?_) (λh2=>lfY ?_)<;>(have h0:openIdx (λs:aw=>decide (s.mode=4)) (p.bf.drop 0) 0=deferredSlots p:=rfl;try simp only[AA] at *)<;>(try simp only[std,Nat.reduceAdd,aM,aF,ak,aq,aU,bF] at *)<;>(try simp(disch:=omega) only[A_,C_] at *)<;>(try simp(disch:=omega) only[G_,F_])<;>(first|trivial|omega|grind[A_,C_,B_,K_,I_,maxLen,aM,aF,List.length_append,List.length_cons,List.length_nil,List.append_assoc]))
def formatAddr (a:FS):ByteArray:=if isName a.host&&isName a.path then a.host++⟨#[47]⟩++a.path else⟨#[]⟩
abbrev Hi:Fct:=⟨[.v (.el .addr)],[.el .str],λ(x:au)=>szAddr x.1<=1000000000000,λ(x:au)=>(formatAddr x.1,())⟩
def AmN:=AnW.a Hi<|Fct.o (KP [1,2] [5]) AnW.2 func148 (by
 rintro⟨(a:FS),_⟩ hp;refine ho (.cl F4 (a,()) λz2=>.br (!z2.1) (.lf Hi ((⟨#[]⟩:ByteArray),())) (.ob (sameSize a.host (⟨#[47]⟩:ByteArray))<|.ob (sameSize (a.host++(⟨#[47]⟩:ByteArray)) a.path)<|.lf Hi (a.host++(⟨#[47]⟩:ByteArray)++a.path,()))) ?_;refine Aj ?_ λ_=>(Aa (λh2=>lfY ?_) λh2=>Ac ?_ λ_=>Ac ?_ λ_=>lfY ?_)<;>(try simp only[AA] at *)<;>(try simp only[std,Nat.reduceAdd,formatAddr,sameSize,aN,szAddr] at *)<;>(try simp(disch:=omega) only[A_,C_] at *)<;>(try simp(disch:=omega) only[G_,F_])<;>(first|trivial|omega|grind[A_,C_,B_,K_,I_,maxLen,formatAddr,sameSize,ByteArray.size_append,szAddr]))
def say (p:HO) (s:ByteArray):HO:=if p.log.length<40 then{ p with log:=p.log++[s]} else p
abbrev AdO:GS:=⟨[.g (.el .page),.l (.v (.el .str))],[.el .page],λ(x:dy)=>True,λ(x:dy)=>((say x.1 x.2.1,()),(()))⟩
def AmG:=AmN.G AdO<|GS.of (S:=AdO) (L:=λ_ _=>none) (kp:=(KP [1,2,4] [8])) AmN.2 func113 k_ k_ (by
 rintro⟨(p:HO),(s:ByteArray),_⟩ hp;refine ho (.br (decide ((p.log.length:Int)<40)) (.ap (p.log.length+[s].length) 16<|GS.out AdO (({p with log:=p.log++[s]},()),(()))) (GS.out AdO ((p,()),(())))) ?_;refine Aa (λh1=>EG ?_ λ_=>GS.leafY ?_) λh1=>GS.leafY ?_;all_goals
  try simp only[AA] at *
  try simp only[std,Nat.reduceAdd,say] at *
  try simp(disch:=omega) only[A_,C_] at *
  try simp(disch:=omega) only[G_,F_]
 all_goals first|trivial|omega|grind[A_,C_,B_,K_,I_,maxLen,say])
def findMod (l:List X_) (a:FS):Int:=AQ (λm=>decide (m.to=a)) l 0
def Sr (l:List X_) (a:FS):AQ (λm=>decide (m.to=a)) l 0=findMod l a:=rfl
def Bu (l:List X_) (a:FS):findMod l a<l.length/\-1<=findMod l a:=by
 have:=BP (λm:X_=>decide (m.to=a)) l 0 o_;unfold findMod;omega
def Dg {l:List X_} {a:FS} (h:0<=findMod l a):(l.getD (findMod l a).toNat default).to=a:=by
 have e:=AdH (λm:X_=>decide (m.to=a)) l 0 o_;rw[Sr,G_ h,Int.sub_zero] at e;grind
def imports (p:HO) (a:FS):List FS×Bool :=
 if findMod p.bi a<0\/(p.bi.getD (findMod p.bi a).toNat default).done=false\/¬ (p.bi.getD (findMod p.bi a).toNat default).code=1 then([],false)
 else((parseModule (p.bi.getD (findMod p.bi a).toNat default).body a.host).1,(parseModule (p.bi.getD (findMod p.bi a).toNat default).body a.host).2.2)
def okMb (p:HO):Prop:=∀ i,i<p.bi.length->(p.bi.getD i default).body.size<=4000000000
abbrev FR:Fct:=⟨[.v (.el .page),.v (.el .addr)],[.sl .addr,.el .bool],λ(x:bv)=>x.1.bi.length<=1000000000000/\okMb x.1/\x.2.1.host.size<=4000000000,λ(x:bv)=>((imports x.1 x.2.1).1,(imports x.1 x.2.1).2,())⟩
def Al7:=AmG.a FR<|Fct.o (KP [2,3,4,5,6,7,9] [32]) AmG.2 func120 (by
 rintro⟨(p:HO),(a:FS),_⟩ hp;refine ho (.cl LA (p,a,()) λ(z2:E_)=>.br (decide (z2.1<0)) (.lf FR ([],false,())) (.ob (inB z2.1 p.bi.length)<|.br (!(p.bi.getD z2.1.toNat default).done) (.lf FR ([],false,())) (.ob (inB z2.1 p.bi.length)<|.br ((p.bi.getD z2.1.toNat default).code != 1) (.lf FR ([],false,())) (.ob (inB z2.1 p.bi.length)<|.cl EF ((p.bi.getD z2.1.toNat default).body,a.host,()) λz3=>.lf FR (z3.1,z3.2.2.1,()))))) ?_;repeat' (guard_target =~ Out.holds _ _;first|refine lfY ?_|refine Aa (λ_=>?_) λ_=>?_|refine Aj ?_ λ_=>?_|refine Ac ?_ λ_=>?_)
 all_goals have hf:=Bu p.bi a<;>obtain⟨q1,q2,q3⟩:=(show p.bi.length<=1000000000000/\okMb p/\a.host.size<=4000000000 from hp)<;>(try simp only[AA] at *)<;>(try simp only[std,Nat.reduceAdd,Sr] at *)<;>(first|omega|exact⟨q2 _ o_,q3⟩|skip)<;>unfold imports<;>(first|rw[G_ (by exact .inl ‹_›)]|rw[G_ (by exact .inr (.inl ‹_›))]|rw[G_ (by exact .inr (.inr ‹_›))]|rw[F_ (by rintro(q|q|q)<;>first|omega|exact tf ‹_› q|exact q ‹_›)])<;>exact⟨rfl,rfl⟩)
def OE (b:ByteArray):∀ (l:List ByteArray) (acc:List FS),(∀ x,x∈acc->x.host.size<=8/\x.path.size<=8)->(∀ x,x∈(pmGo b l acc).1->x.host.size<=8/\x.path.size<=8)/\(pmGo b l acc).1.length+l.length<=acc.length+szL Ag l
 | [],acc,h=>⟨h,Y_ _⟩
 | w::l,acc,h=>by
  rw[pmGo,Ah];have hnil:∀ x:FS,x∈([]:List FS)->x.host.size<=8/\x.path.size<=8:=λx h=>by cases h
  have hll:=Ad Ag l;split
  ·rename_i hi;split
   ·rename_i hc;obtain⟨i1,i2⟩:=OE b l (acc++[(parseAddr (w.extract 7 w.size) b).1]) (λx hx=>by
     rcases ae.1 hx with hx|hx
     ·exact h x hx
     ·rw[List.mem_singleton] at hx;subst hx;unfold parseAddr at hc ⊢;split at hc
      ·rename_i hn;rw[G_ hn];rw[S_] at hn;exact⟨AX hn.1,AX hn.2⟩
      ·cases hc)
    refine⟨i1,?_⟩;rw[ak] at i2;have:=hi.1;grind
   ·grind
  ·grind
def NX (s b:ByteArray):(∀ x,x∈(parseModule s b).1->x.host.size<=8/\x.path.size<=8)/\(parseModule s b).1.length<=s.size:=by
 obtain⟨h1,h2⟩:=OE b (spl 59 s) [] (λx h=>by cases h);have h3:=(Fy 59 s).1;rw[Pu] at h2;exact⟨h1,by simp only[aU,parseModule] at *;omega⟩
def Dw (p:HO) (a:FS):(∀ x,x∈(imports p a).1->x.host.size<=8/\x.path.size<=8)/\((imports p a).1=[]\/0<=findMod p.bi a/\(imports p a).1.length<=(p.bi.getD (findMod p.bi a).toNat default).body.size):=by
 unfold imports;split
 ·simp
 ·rename_i h;have:=NX (p.bi.getD (findMod p.bi a).toNat default).body a.host;simp_all
def inL (l:List FS) (a:FS):Bool:=l.any λc=>decide (c=a)
def visitF:Nat->HO->FS->List FS×List FS->List FS×List FS
 | 0,_,_,st=>st
 | f+1,p,a,st=>if inL st.1 a=true then st else
  (((imports p a).1.foldl (λst b=>visitF f p b st) (st.1++[a],st.2)).1,((imports p a).1.foldl (λst b=>visitF f p b st) (st.1++[a],st.2)).2++[a])
def muV (p:HO) (s:List FS):Nat:=(p.bi.filter λm=>!inL s m.to).length
def wtV (p:HO) (s:List FS):Nat:=((p.bi.filter λm=>!inL s m.to).map λm=>m.body.size+1).sum
def Ji (s l:List FS) (a:FS):inL (s++l) a=(inL s a||inL l a):=by unfold inL;rw[List.any_append]
def Ti (a b:FS):inL [a] b=decide (a=b):=by unfold inL;simp
def G6 {α:Type} {f g:α->Bool}:∀ {l:List α},(∀ x,x∈l->g x=true->f x=true)->(l.filter g).length<=(l.filter f).length
 | [],_=>Y_ _
 | x::l,h=>by
  have ih:=G6 (f:=f) (g:=g) (l:=l) λy hy=>h y (cT _ hy)
  grind
def AdA (p:HO) (s l:List FS):muV p (s++l)<=muV p s:=by
 unfold muV;refine G6 λm _ h=>?_
 rw[Ji] at h;simp_all
def wtL (g:X_->Bool):List X_->Nat
 | []=>0
 | m::l=>(if g m=true then m.body.size+1 else 0)+wtL g l
def Aha (g:X_->Bool):∀ l:List X_,wtL g l=((l.filter g).map λm=>m.body.size+1).sum
 | []=>rfl
 | m::l=>by rw[wtL,List.filter_cons,Aha g l];grind
def AcY {f g:X_->Bool}:∀ {l:List X_},(∀ m,g m=true->f m=true)->wtL g l<=wtL f l
 | [],_=>Y_ _
 | m::l,h=>by have:=AcY (l:=l) h;rw[wtL,wtL];grind
def Wx {f g:X_->Bool}:∀ {l:List X_} {i:Nat},i<l.length->(∀ m,g m=true->f m=true)->f (l.getD i default)=true->g (l.getD i default)=false->wtL g l+(l.getD i default).body.size+1<=wtL f l
 | [],i,h,_,_,_=>absurd h (Nat.not_lt_zero _)
 | m::l,0,_,hl,h1,h2=>by
  have:=AcY (l:=l) hl;have h1:f m=true:=h1;have h2:g m=false:=h2;show wtL g (m::l)+m.body.size+1<=_;rw[wtL,wtL,F_ (by rw[h2];decide),G_ h1];omega
 | m::l,i+1,h,hl,h1,h2=>by have ih:=Wx (l:=l) (i:=i) (by simpa using h) hl h1 h2;show wtL g (m::l)+(l.getD i default).body.size+1<=_;rw[wtL,wtL];grind
def Ru (p:HO) (s:List FS):wtV p s=wtL (λm=>!inL s m.to) p.bi:=(Aha _ _).symm
def LN {s:List FS} (l:List FS) {m:X_} (h:(!inL (s++l) m.to)=true):(!inL s m.to)=true:=by
 rw[Ji] at h;simp_all
def AdF (p:HO) (s l:List FS):wtV p (s++l)<=wtV p s:=by
 rw[Ru,Ru];exact AcY λm h=>LN l h
def Za (p:HO) (s:List FS) (a:FS) (h:inL s a=false) (hf:0<=findMod p.bi a):wtV p (s++[a])+(p.bi.getD (findMod p.bi a).toNat default).body.size+1<=wtV p s:=by
 rw[Ru,Ru];have hr:=Bu p.bi a;have hg:=Dg hf;refine Wx o_ (λm h=>LN [a] h) ?_ ?_
 ·rw[hg,h];rfl
 ·rw[hg,Ji,h,Ti,bR rfl];rfl
def Ac3 (p:HO) (s:List FS) (a:FS) (h:inL s a=false) (hf:0<=findMod p.bi a):muV p (s++[a])<muV p s:=by
 have hr:=Bu p.bi a;have hg:=Dg hf;have key:∀ (l:List X_) (i:Nat),i<l.length->(l.getD i default).to=a->(l.filter λm=>!inL (s++[a]) m.to).length<(l.filter λm=>!inL s m.to).length:=by
  intro l
  induction l with
  | nil=>intro i hi;exact absurd hi (Nat.not_lt_zero _)
  | cons m l ih=>
   intro i hi he;have hle:(l.filter λm=>!inL (s++[a]) m.to).length<=(l.filter λm=>!inL s m.to).length:=G6 λm _ h=>LN [a] h
   rw[List.filter_cons,List.filter_cons];cases i with
   | zero=>
    have he:m.to=a:=he;rw[he,Ji,h,Ti,bR rfl];grind
   | succ i=>
    have:=ih i (by simpa using hi) he;by_cases h1:(!inL (s++[a]) m.to)=true
    ·rw[G_ h1,G_ (LN [a] h1)];simp only[aq];omega
    ·grind
 exact key _ _ o_ hg
def S2 {α β:Type} (P:β->Prop) (f:β->α->β) (hf:∀ b a,P b->P (f b a)):∀ (l:List α) (b:β),P b->P (l.foldl f b)
 | [],_,h=>h
 | a::l,b,h=>S2 P f hf l (f b a) (hf b a h)
def NL:∀ (f:Nat) (p:HO) (a:FS) (st:aA),∃ l,(visitF f p a st).1=st.1++l
 | 0,p,a,st=>⟨[],(cz _).symm⟩
 | f+1,p,a,st=>by
  rw[visitF];split
  ·exact⟨[],(cz _).symm⟩
  ·have:=S2 (λb:List FS×List FS=>∃ l,b.1=st.1++l) (λst b=>visitF f p b st) (λb x ⟨l,hl⟩=>by obtain⟨m,hm⟩:=NL f p x b;exact⟨l++m,by rw[hm,hl,bF]⟩) (imports p a).1 (st.1++[a],st.2) ⟨[a],rfl⟩
   exact this
def HL:∀ (f g:Nat) (p:HO) (a:FS) (st:aA),muV p st.1<f->muV p st.1<g->visitF f p a st=visitF g p a st
 | 0,_,_,_,_,h,_=>absurd h (Nat.not_lt_zero _)
 | _+1,0,_,_,_,_,h=>absurd h (Nat.not_lt_zero _)
 | f+1,g+1,p,a,st,h1,h2=>by
  rw[visitF,visitF];split
  ·rfl
  ·rename_i hn;have hn:inL st.1 a=false:=by simpa using hn
   have hfold:∀ (l:List FS) (s:aA),muV p s.1<f->muV p s.1<g->l.foldl (λst b=>visitF f p b st) s=l.foldl (λst b=>visitF g p b st) s:=by
    intro l
    induction l with
    | nil=>intro s _ _;rfl
    | cons b l ih=>
     intro s q1 q2;rw[dD,dD,<-HL f g p b s q1 q2];obtain⟨m,hm⟩:=NL f p b s;have:=AdA p s.1 m;grind
   rcases(Dw p a).2 with he|⟨hm,_⟩
   ·rw[he];rfl
   ·have:=Ac3 p st.1 a hn hm;grind
def visit (p:HO) (a:FS) (st:aA):List FS×List FS:=visitF (p.bi.length+1) p a st
def Ags (p:HO) (s:List FS):muV p s<=p.bi.length:=List.length_filter_le _ _
def Acm {p:HO} {a:FS} {st:List FS×List FS} (h:inL st.1 a=true):visit p a st=st:=by unfold visit;rw[visitF,G_ h]
def Afd {p:HO} {a:FS} {st:List FS×List FS} (h:inL st.1 a=false):visit p a st=(((imports p a).1.foldl (λst b=>visit p b st) (st.1++[a],st.2)).1,((imports p a).1.foldl (λst b=>visit p b st) (st.1++[a],st.2)).2++[a]):=by
 have e:visit p a st=visitF (p.bi.length+2) p a st:=HL _ _ p a st (by have:=Ags p st.1;omega) (by have:=Ags p st.1;omega);rw[e,visitF,F_ (by rw[h];decide)];rfl
def totV (p:HO) (s:List FS):Nat:=s.length+wtV p s
def Sz:∀ (f:Nat) (p:HO) (a:FS) (st:aA),totV p (visitF f p a st).1<=totV p st.1+1/\(visitF f p a st).2.length+st.1.length=st.2.length+(visitF f p a st).1.length
 | 0,p,a,st=>⟨Nat.le_succ _,rfl⟩
 | f+1,p,a,st=>by
  rw[visitF];split
  ·omega
  ·rename_i hn;have hn:inL st.1 a=false:=by simpa using hn
   have hfold:∀ (l:List FS) (s:aA),totV p (l.foldl (λst b=>visitF f p b st) s).1<=totV p s.1+l.length/\(l.foldl (λst b=>visitF f p b st) s).2.length+s.1.length=s.2.length+(l.foldl (λst b=>visitF f p b st) s).1.length:=by
    intro l
    induction l with
    | nil=>intro s;exact⟨Y_ _,rfl⟩
    | cons b l ih=>
     intro s;rw[dD];have h1:=Sz f p b s;grind
   have h1:=hfold (imports p a).1 (st.1++[a],st.2);rw[ak,dY];have h3:(st.1++[a]).length=st.1.length+1:=by simp
   rcases(Dw p a).2 with he|⟨hm,hl⟩
   ·rw[he] at h1 ⊢;have:=AdF p st.1 [a];simp only[totV,aU,List.foldl_nil] at *
    omega
   ·have:=Za p st.1 a hn hm;simp only[totV] at *
    omega
def reachOf (p:HO) (a:FS):List FS:=(visit p a ([],[])).2
def Yb {p:HO} {a:FS} {s:List FS} {i:Nat} (h:inL s a=false) (hi:i<(imports p a).1.length):totV p (s++[a])+i<totV p s/\muV p (s++[a])<muV p s:=by
 rcases(Dw p a).2 with he|⟨hm,hl⟩
 ·simp_all
 ·have h1:=Za p s a h hm;refine⟨?_,Ac3 p s a h hm⟩;simp only[totV,ak,aq,aU];omega
def X7 {p:HO} {l:List FS} {i:Nat} {st:List FS×List FS} (h:i<l.length):(l.drop i).foldl (λst b=>visit p b st) st=(l.drop (i+1)).foldl (λst b=>visit p b st) (visit p (l.getD i default) st):=by rw[B_ h];rfl
def U4 {p:HO} {l:List FS} {i:Nat} {st:List FS×List FS} (h:l.length<=i):(l.drop i).foldl (λst b=>visit p b st) st=st:=by rw[bQ h];rfl
def OD (p:HO) (a:FS) (st:aA):totV p (visit p a st).1<=totV p st.1+1/\(visit p a st).2.length+st.1.length=st.2.length+(visit p a st).1.length:=Sz _ _ _ _
abbrev mVis (x:eF):Nat:=muV x.1 x.2.2.1
def okVis (p:HO) (a:FS) (s o:List FS):Prop:=p.bi.length<=1000000000000/\okMb p/\a.host.size<=4000000000/\totV p s<=100000000000/\o.length<=s.length
abbrev Lz:GS:=⟨[.l (.v (.el .page)),.l (.v (.el .addr)),.g (.sl .addr),.g (.sl .addr)],[.sl .addr,.sl .addr],λ(x:eF)=>okVis x.1 x.2.1 x.2.2.1 x.2.2.2.1,λ(x:eF)=>(((visit x.1 x.2.1 (x.2.2.1,x.2.2.2.1)).1,(visit x.1 x.2.1 (x.2.2.1,x.2.2.2.1)).2,()),(()))⟩
def visInv (p:HO) (a:FS) (s o se od:List FS) (i:Int):Prop:=0<=i/\i<=(imports p a).1.length/\((imports p a).1.drop i.toNat).foldl (λst b=>visit p b st) (se,od)=(imports p a).1.foldl (λst b=>visit p b st) (s++[a],o)/\(∃ m,se=(s++[a])++m)/\totV p se<=totV p (s++[a])+i.toNat/\od.length+(s.length+1)=o.length+se.length
def AbB {p:HO} {a:FS} {s o se od:List FS} {i:Int} (h:visInv p a s o se od i) (hi:i<(imports p a).1.length):visInv p a s o (visit p ((imports p a).1.getD i.toNat default) (se,od)).1 (visit p ((imports p a).1.getD i.toNat default) (se,od)).2 (i+1):=by
 obtain⟨h1,h2,h3,⟨m,hm⟩,h5,h6⟩:=h;have ht:=OD p ((imports p a).1.getD i.toNat default) (se,od);rw[X7 o_] at h3;obtain⟨l,hl⟩:=NL (p.bi.length+1) p ((imports p a).1.getD i.toNat default) (se,od);dsimp only at ht;refine⟨o_,o_,?_,⟨m++l,?_⟩,?_,?_⟩
 ·grind
 ·show(visit p _ (se,od)).1=_;unfold visit;simp_all
 ·omega
 ·omega
def OV {p:HO} {a:FS} {s o se od:List FS} {i:Int} (h:visInv p a s o se od i) (hi:i<(imports p a).1.length) (hn:inL s a=false) (hp:okVis p a s o):okVis p ((imports p a).1.getD i.toNat default) se od/\muV p se<muV p s:=by
 obtain⟨h1,h2,h3,⟨m,hm⟩,h5,h6⟩:=h;obtain⟨p1,p2,p3,p4,p5⟩:=hp;have hr:=Yb hn (show i.toNat<(imports p a).1.length from o_);have hm2:=AdA p (s++[a]) m;rw[<-hm] at hm2;have hb:=(Dw p a).1 _ (Ae (show i.toNat<(imports p a).1.length from o_));exact⟨⟨p1,p2,o_,o_,o_⟩,o_⟩
def MW {p:HO} (a:FS) (h:okMb p):(imports p a).1.length<=4000000000:=by
 have hr:=Bu p.bi a;rcases(Dw p a).2 with he|⟨q1,q2⟩
 ·rw[he];decide
 ·have:=h (findMod p.bi a).toNat o_;omega
def X5 {p:HO} {a:FS} {s o se od:List FS} {i:Int} (h:visInv p a s o se od i) (hp:okVis p a s o):od.length<=200000000000:=by
 obtain⟨h1,h2,h3,_,h5,h6⟩:=h;obtain⟨p1,p2,p3,p4,p5⟩:=hp;have h7:=MW a p2;have h8:=AdF p s [a];simp only[totV,ak,aq,aU] at *
 omega
def Yk {p:HO} {a:FS} {s o se od:List FS} {i:Int} (h:visInv p a s o se od i) (hi:¬ i<(imports p a).1.length) (hn:inL s a=false):(se,od++[a])=visit p a (s,o):=by
 obtain⟨h1,h2,h3,_⟩:=h;rw[U4 o_] at h3;rw[Afd (st:=(s,o)) hn,<-h3]
def AdW (p:HO) (a:FS) (s o:List FS) (ho:o.length<=s.length):visInv p a s o (s++[a]) o 0:=by
 refine⟨o_,o_,rfl,⟨[],(cz _).symm⟩,Y_ _,?_⟩;simp
def Z4 (s:List FS) (a:FS):(s.any λc=>decide (c=a))=inL s a:=rfl
abbrev Dp (p:HO) (a:FS) (s:(List FS)) (o:(List FS)):LInv:=⟨[⟨.s,2,true,.sl .addr⟩,⟨.s,3,true,.sl .addr⟩,⟨.s,12,true,.el .int⟩,⟨.b,4,false,.el .page⟩,⟨.b,5,true,.el .addr⟩,⟨.s,10,true,.sl .addr⟩],λ(z x:dO)=>(((visInv p a s o x.1 x.2.1 x.2.2.1)/\x.2.2.2.1=z.2.2.2.1)/\x.2.2.2.2.1=z.2.2.2.2.1)/\x.2.2.2.2.2.1=z.2.2.2.2.2.1,λ(x:dO)=>(imports p a).1.length-x.2.2.1.toNat⟩
def Anw:=Al7.G Lz<|GS.ofRec (S:=Lz) (L:=λ⟨p,a,s,o,_⟩=>λ|6=>some (Dp p a s o)|_=>none) (kp:=[2,3,4,5,8,9,10,12,15,33,1000015,1000033]) mVis Al7.2 func193 k_ k_ (by
 intro n0;rintro⟨(p:HO),(a:FS),(s:List FS),(o:List FS),_⟩ hp hm;refine ho (.cl DC (s,a,()) λz2=>.br (z2.1) (GS.out Lz ((s,o,()),(()))) (.ap s.length 32<|.ap (s.length+[a].length) 32<|.cl FR (p,a,()) λz3=>lpx (Dp p a s o) (s++[a],(o,((0:Int),(p,(a,(z3.1,())))))) λ(y6:dO) bk6=>.br (decide (y6.2.2.1<(y6.2.2.2.2.2.1.length:Int))) (.ix y6.2.2.1 y6.2.2.2.2.2.1.length<|.ob (Lz.pre (y6.2.2.2.1,y6.2.2.2.2.2.1.getD y6.2.2.1.toNat default,y6.1,y6.2.1,())/\mVis (y6.2.2.2.1,y6.2.2.2.2.2.1.getD y6.2.2.1.toNat default,y6.1,y6.2.1,())<n0)<|.lt _ (Lz.fn (y6.2.2.2.1,y6.2.2.2.2.2.1.getD y6.2.2.1.toNat default,y6.1,y6.2.1,())) λz4=>.bk (bk6 (z4.1.1,(z4.1.2.1,(w1 y6.2.2.1,(y6.2.2.2.1,(y6.2.2.2.2.1,(y6.2.2.2.2.2.1,())))))))) (.ap y6.2.1.length 32<|.ap (y6.2.1.length+[y6.2.2.2.2.1].length) 32<|GS.out Lz ((y6.1,y6.2.1++[y6.2.2.2.2.1],()),(()))))) ?_;refine Aj ?_ λ_=>(Aa (λh2=>GS.leafY ?_) λh2=>EG ?_ λ_=>EG ?_ λ_=>Aj ?_ λ_=>Aq ?_ λ(y6:dO) i6=>Aa (λh7=>CW ?_ λo8 o9=>Ac ?_ λ_=>K6 (AR ?_)) λh7=>EG ?_ λ_=>EG ?_ λ_=>GS.leafY ?_)<;>have hq:okVis p a s o:=hp<;>obtain⟨p1,p2,p3,p4,p5⟩:=(show okVis p a s o from hp)<;>(have hsl:s.length<=100000000000:=by(simp only[totV] at p4;omega))<;>(have hil:=MW a p2;try simp only[AA] at *)<;>(try simp only[std,Nat.reduceAdd,Z4] at *)<;>(first|trivial|omega|exact⟨p1,p2,p3⟩|exact AdW p a s o p5|(rw[Acm ‹_›];exact⟨rfl,rfl⟩)|skip)<;>(obtain⟨⟨⟨i1,e1⟩,e2⟩,e3⟩:=i6;simp only[e1,e2,e3] at *)<;>(have i2:=i1.1;have i3:=X5 i1 hq)<;>(first|trivial|omega|exact⟨i2,‹_›⟩|skip)<;>(first|exact⟨(OV i1 ‹_› ‹_› hq).1,fE (OV i1 ‹_› ‹_› hq).2 (Nat.le_of_lt_succ hm)⟩|(rw[Aw o_];simp only[and_true];exact⟨AbB i1 ‹_›,o_⟩)|(rw[<-Yk i1 o_ ‹_›];exact⟨rfl,rfl⟩)))
abbrev JV:Fct:=⟨[.v (.el .page),.v (.el .addr)],[.sl .addr],λ(x:bv)=>okVis x.1 x.2.1 [] [],λ(x:bv)=>(reachOf x.1 x.2.1,())⟩
def An9:=Anw.a JV<|Fct.o [2,3,4,6] Anw.2 func146 (by
 rintro⟨(p:HO),(a:FS),_⟩ hp;refine ho (.ob (Lz.pre (p,a,[],[],()))<|.lt _ (Lz.fn (p,a,[],[],())) λz2=>.lf JV (z2.1.2.1,())) ?_;refine Ac ?_ λ_=>K6 (lfY ?_)<;>(try simp only[AA] at *)<;>(try simp only[std,Nat.reduceAdd] at *)<;>(first|assumption|rfl))
def Sy:∀ (f:Nat) (p:HO) (a:FS) (st:aA) (x:FS),x∈(visitF f p a st).2->x∈st.2\/x=a\/x.host.size<=8
 | 0,p,a,st,x,h=>.inl h
 | f+1,p,a,st,x,h=>by
  rw[visitF] at h;split at h
  ·exact .inl h
  ·have hfold:∀ (l:List FS) (s:aA),(∀ y,y∈l->y.host.size<=8)->x∈(l.foldl (λst b=>visitF f p b st) s).2->x∈s.2\/x.host.size<=8:=by
    intro l
    induction l with
    | nil=>intro s _ h;exact .inl h
    | cons b l ih=>
     intro s hl h;rcases ih _ (λy hy=>hl y (cT _ hy)) h with h|h
     ·rcases Sy f p b s x h with h|h|h
      ·exact .inl h
      ·simp_all
      ·exact .inr h
     ·exact .inr h
   rcases ae.1 h with h|h
   ·rcases hfold _ _ (λy hy=>((Dw p a).1 y hy).1) h with h|h
    ·exact .inl h
    ·exact .inr (.inr h)
   ·simp_all
def Ok {p:HO} {a x:FS} (h:x∈reachOf p a) (ha:a.host.size<=4000000000):x.host.size<=4000000000:=by
 rcases Sy _ p a ([],[]) x h with h|h|h
 ·cases h
 ·exact h▸ha
 ·omega
def Ns {p:HO} {a:FS} (h:totV p []<=100000000000):(reachOf p a).length<=100000000001:=by
 have:=OD p a ([],[]);unfold reachOf;simp only[aU] at this;have h2:(visit p a ([],[])).1.length<=totV p (visit p a ([],[])).1:=cO _ _;omega
def graphReady (p:HO) (a:FS):Bool:=(reachOf p a).all λb=>decide (0<=findMod p.bi b)&&(p.bi.getD (findMod p.bi b).toNat default).done
def graphFails (p:HO) (a:FS):Bool:=(reachOf p a).any λb=>!(imports p b).2
def AkH {α:Type} [Inhabited α] {f:α->Bool} {l:List α} {i:Nat} (h:i<l.length):(l.drop i).all f=(f (l.getD i default)&&(l.drop (i+1)).all f):=by rw[B_ h];rfl
def Ako {α:Type} [Inhabited α] {f:α->Bool} {l:List α} {i:Nat} (h:i<l.length):(l.drop i).any f=(f (l.getD i default)||(l.drop (i+1)).any f):=by rw[B_ h];rfl
def Aiv {α:Type} {f:α->Bool} {l:List α} {i:Nat} (h:l.length<=i):(l.drop i).all f=true:=by rw[bQ h];rfl
def AhQ {α:Type} {f:α->Bool} {l:List α} {i:Nat} (h:l.length<=i):(l.drop i).any f=false:=by rw[bQ h];rfl
abbrev Fj:Fct:=⟨[.v (.el .page),.v (.el .addr)],[.el .bool],λ(x:bv)=>okVis x.1 x.2.1 [] [],λ(x:bv)=>(graphReady x.1 x.2.1,())⟩
abbrev B2 (p:HO) (a:FS):LInv:=⟨[⟨.s,6,true,.el .int⟩,⟨.b,2,false,.el .page⟩,⟨.s,5,true,.sl .addr⟩],λ(z x:bX)=>((0<=x.1/\x.1<=(reachOf p a).length/\((reachOf p a).drop x.1.toNat).all (λb=>decide (0<=findMod p.bi b)&&(p.bi.getD (findMod p.bi b).toNat default).done)=graphReady p a)/\x.2.1=z.2.1)/\x.2.2.1=z.2.2.1,λ(x:bX)=>(reachOf p a).length-x.1.toNat⟩
def Ams:=An9.a Fj<|Fct.p (KP [2,3,4,5,6,7] [14,33]) (λ⟨p,a,_⟩=>lv [(3,B2 p a)]) An9.2 func111 (by
 rintro⟨(p:HO),(a:FS),_⟩ hp;refine ho (.cl JV (p,a,()) λz2=>lpx (B2 p a) ((0:Int),(p,(z2.1,()))) λ(y2:bX) bk2=>.br (decide (y2.1<(y2.2.2.1.length:Int))) (.ix y2.1 y2.2.2.1.length<|.cl LA (y2.2.1,y2.2.2.1.getD y2.1.toNat default,()) λ(z3:E_)=>.br (decide (z3.1<0)) (.lf Fj (false,())) (.ob (inB z3.1 y2.2.1.bi.length)<|.br (!(y2.2.1.bi.getD z3.1.toNat default).done) (.lf Fj (false,())) (.bk (bk2 (w1 y2.1,(y2.2.1,(y2.2.2.1,()))))))) (.lf Fj (true,()))) ?_;refine Aj ?_ λ_=>(Aq ?_ λ(y2:bX) i2=>Aa (λh3=>CW ?_ λo4 o5=>Aj ?_ λ_=>Aa (λh7=>lfY ?_) λh7=>Ac ?_ λ_=>Aa (λh9=>lfY ?_) λh9=>AR ?_) λh3=>lfY ?_)<;>obtain⟨p1,p2,p3,p4,p5⟩:=(show okVis p a [] [] from hp)<;>(have hl:=Ns (a:=a) p4;try simp only[AA] at *)<;>(try simp only[std,Nat.reduceAdd,Sr] at *)<;>(first|trivial|omega|exact⟨p1,p2,p3,p4,p5⟩|exact⟨o_,o_,rfl⟩|skip)<;>(obtain⟨⟨⟨i0,i1,i3⟩,e1⟩,e2⟩:=i2;simp only[e1,e2] at *)<;>have hf:=Bu p.bi ((reachOf p a).getD y2.1.toNat default)<;>(first|assumption|omega|skip)<;>(first|(rw[Aiv o_] at i3;exact i3)|rw[AkH o_] at i3)<;>(first|(rw[<-i3,ey o_];rfl)|(rw[<-i3,bR o_,show X_.done _=false from ‹_›];rfl)|(rw[bR o_,show X_.done _=true from ‹_›,Bool.true_and,Bool.true_and] at i3;rw[Aw o_,show(y2.1+1).toNat=y2.1.toNat+1 from o_];simp only[and_true];exact⟨⟨o_,o_,i3⟩,o_⟩)))
abbrev GP:Fct:=⟨[.v (.el .page),.v (.el .addr)],[.el .bool],λ(x:bv)=>okVis x.1 x.2.1 [] [],λ(x:bv)=>(graphFails x.1 x.2.1,())⟩
abbrev B1 (p:HO) (a:FS):LInv:=⟨[⟨.s,6,true,.el .int⟩,⟨.b,2,false,.el .page⟩,⟨.s,5,true,.sl .addr⟩],λ(z x:bX)=>((0<=x.1/\x.1<=(reachOf p a).length/\((reachOf p a).drop x.1.toNat).any (λb=>!(imports p b).2)=graphFails p a)/\x.2.1=z.2.1)/\x.2.2.1=z.2.2.1,λ(x:bX)=>(reachOf p a).length-x.1.toNat⟩
end Go.Proofs.YtfklkhgmgglloaaGreat.fnOthersLearn
