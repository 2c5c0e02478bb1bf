/-
  Contracts of functions that the law of FnOthersLearn reaches, part 1.
-/
import Derived.Test.YtfklkhgmgglloaaGreatVLe
import Derived.WalkKit
import Derived.BigGuard
import Derived.Deep.QuietTactic
import Derived.BigQuiet
import Derived.Lib.ConvBytes
import Derived.Sort.WalkC
import Derived.Test.YtfklkhgmgglloaaGreatRows
import Derived.ProofKit
import Derived.OpenShut
namespace Go.Proofs.YtfklkhgmgglloaaGreat.fnOthersLearn
open Go.Proofs.YtfklkhgmgglloaaGreat
open Go.D Go.Proofs.Tryz
set_option maxRecDepth 100000
set_option maxHeartbeats 2000000
set_option linter.defProp false
set_option linter.unusedVariables false
set_option linter.unusedSimpArgs false
def tyOf:TypeId->Option Ty
 | 3=>some .int
 | 4=>some .bool
 | 5=>some .u8
 | 9=>some .str
 | 27=>some .cache
 | 30=>some .net
 | 32=>some .addr
 | 38=>some .bm
 | 40=>some .tokenizer
 | 44=>some .ba
 | 49=>some .page
 | 56=>some .sent
 | 76=>some .loader
 | 81=>some .bd
 | 91=>some .request
 | 144=>some .server
 | 147=>some .file
 | 154=>some .entry
 | 160=>some .node
 | 167=>some .slot
 | 171=>some .token
 | 177=>some .module
 | 213=>some .attr
 | 245=>some .line
 | 252=>some .sheet
 | 273=>some .conn
 | 276=>some .guess
 | 287=>some .rule
 | _=>none
abbrev Eo:={ E:D.Env // EOk Tryz.prog E }
def Eo.a (e:Eo) (S:Fct) {f:Nat} (k:S.ok Tryz.prog f):Eo:=⟨e.1.add f S,e.2.add k⟩
def Eo.G (e:Eo) (S:GS) {f:Nat} (k:S.ok Tryz.prog f):Eo:=⟨e.1.addG f S,e.2.addG k⟩
def Eo.X (e:Eo) (S:Xct) {f:Nat} (k:S.ok Tryz.prog f):Eo:=⟨e.1.addX f S,e.2.addX k⟩
def Eo.N (e:Eo) {f:Nat} (k:Ut Tryz.prog f):Eo:=⟨e.1.addN f,e.2.addN k⟩
abbrev eE:=List ao×Unit
abbrev bI:=Int×Int×Unit
abbrev dl:=Int×FS×Unit
abbrev E_:=Int×Unit
abbrev fS:=List ao×Int×Unit
abbrev fT:=Int×List ao×Unit
abbrev al:=L_×Unit
abbrev gX:=List ao×FS×L_×Bool×Unit
abbrev fF:=List FS×FS×Unit
abbrev gY:=List ay×List FS×Unit
abbrev eJ:=List ay×Int×Unit
abbrev dt:=List ByteArray×ByteArray×Unit
abbrev ai:=HO×Unit
abbrev bC:=N_×Unit
abbrev eK:=List ByteArray×Int×Unit
abbrev cQ:=N_×ByteArray×Unit
abbrev eL:=List bE×Int×N_×Unit
abbrev eN:=List bE×Int×Unit
abbrev cR:=List ByteArray×Int×List bE×Unit
abbrev ga:=List FS×List FS×Unit
abbrev gf:=HO×List ay×Unit
abbrev eO:=List aZ×Unit
abbrev ct:=O_×Unit
abbrev eP:=List af×Int×Unit
abbrev eQ:=aj×Int×aj×aj×Unit
abbrev aS:=aQ×Unit
abbrev eR:=List FS×Unit
abbrev eS:=Int×List FS×Unit
abbrev eT:=Int×Int×List FS×Unit
abbrev gh:=N_×N_×ByteArray×Unit
abbrev eU:=List FS×Int×N_×Unit
abbrev eV:=N_×N_×N_×ByteArray×Unit
abbrev eW:=List FS×Int×List FS×List FS×Unit
abbrev bv:=HO×FS×Unit
abbrev eX:=Int×HO×FS×Unit
abbrev gj:=ByteArray×List Int×Unit
abbrev dv:=List ByteArray×Int×Int×Unit
abbrev gk:=Bool×Int×List ByteArray×Int×Int×Unit
abbrev eY:=Int×List N_×N_×N_×N_×Unit
abbrev eZ:=Int×List ByteArray×Int×List N_×N_×N_×N_×Unit
abbrev D_:=ByteArray×Unit
abbrev au:=FS×Unit
abbrev bJ:=List ByteArray×Unit
abbrev gm:=aQ×Int×ByteArray×Unit
abbrev fe:=ay×Unit
abbrev gn:=aQ×ay×Unit
abbrev bB:=List V_×Unit
abbrev cw:=bD×Unit
abbrev gp:=List V_×ByteArray×Unit
abbrev gq:=V_×ByteArray×Unit
abbrev dw:=Int×V_×Unit
abbrev gu:=List V_×FS×Unit
abbrev gw:=bD×ByteArray×FS×Unit
abbrev gx:=Int×bD×FS×Unit
abbrev gy:=bD×ByteArray×FS×Int×Unit
abbrev gA:=Int×bD×FS×L_×Unit
abbrev am:=List Int×Unit
abbrev bN:=List Int×Int×Unit
abbrev aa:=ByteArray×Int×Unit
abbrev W_:=Unit×Unit
abbrev az:=Unit×Int×Unit
abbrev U_:=Bool×Unit
abbrev dq:=Unit×List ByteArray×Unit
abbrev gB:=ByteArray×List ByteArray×Unit
abbrev fg:=List ByteArray×Int×List ByteArray×Unit
abbrev fh:=L_×L_×Unit
abbrev fi:=List aZ×FS×Unit
abbrev gD:=List aZ×FS×L_×Unit
abbrev fj:=Int×bD×Unit
abbrev gE:=bD×ByteArray×FS×L_×Int×Unit
abbrev gF:=N_×ByteArray×FS×L_×Unit
abbrev gG:=N_×ByteArray×FS×Bool×Unit
abbrev gH:=N_×FS×List Int×Unit
abbrev dx:=ByteArray×ByteArray×Unit
abbrev fk:=aQ×ay×L_×Unit
abbrev bW:=HO×Int×Unit
abbrev fm:=FS×Int×FS×Unit
abbrev gJ:=List cU×ByteArray×Unit
abbrev gK:=af×ByteArray×Unit
abbrev gL:=List af×ByteArray×Unit
abbrev gM:=List FS×Int×HO×List ay×Unit
abbrev fp:=Int×O_×O_×O_×List FS×Unit
abbrev ei:=af×Int×af×List ByteArray×Unit
abbrev gN:=dj×ByteArray×Unit
abbrev fq:=List af×ByteArray×dj×Unit
abbrev dy:=HO×ByteArray×Unit
abbrev ft:=aj×Int×Unit
abbrev gO:=ByteArray×Int×aj×Unit
abbrev fu:=aj×ByteArray×Unit
abbrev gP:=Int×Int×aj×Unit
abbrev gQ:=List bA×ByteArray×Unit
abbrev fw:=Int×bM×List ByteArray×Unit
abbrev fx:=List bM×Int×List ByteArray×Unit
abbrev gR:=aj×List bA×bM×Unit
abbrev gS:=aj×List bA×List bM×Unit
abbrev fy:=aj×ByteArray×List ByteArray×Int×aj×Unit
abbrev fA:=bA×Int×bA×List ByteArray×Unit
abbrev bO:=List Int×Int×HO×Unit
abbrev gT:=aQ×ByteArray×Unit
abbrev fB:=List bA×Int×HO×Unit
abbrev fL:=HO×ByteArray×Bool×Unit
abbrev dK:=HO×Int×HO×List ByteArray×Unit
abbrev dL:=Int×aj×aj×Unit
abbrev fM:=HO×Int×ByteArray×ByteArray×Int×Unit
abbrev fN:=HO×Int×L_×Unit
abbrev dM:=Int×HO×FS×HO×HO×Unit
abbrev fO:=HO×af×Int×Unit
abbrev dN:=List FS×ByteArray×Unit
abbrev aA:=List FS×List FS
abbrev eF:=HO×FS×List FS×List FS×Unit
abbrev dO:=List FS×List FS×Int×HO×FS×List FS×Unit
abbrev bX:=Int×HO×List FS×Unit
abbrev bY:=HO×Int×HO×List FS×Unit
abbrev dP:=HO×Int×List ByteArray×List FS×HO×Unit
abbrev dQ:=HO×Int×HO×Unit
abbrev cN:=HO×FS×L_×Unit
abbrev dR:=HO×Int×HO×FS×L_×HO×Unit
abbrev bZ:=List ay×Int×HO×List Int×Unit
abbrev dS:=List FS×Int×Unit
abbrev ca:=O_×Int×Unit
abbrev dT:=Int×O_×O_×ao×List ay×Unit
abbrev dU:=O_×Int×O_×O_×Unit
abbrev dV:=Int×O_×O_×Unit
abbrev bL:=O_×Int×O_×Unit
abbrev de:=N_×FS×List Int×List Int×Unit
abbrev dW:=Int×Int×V_×Unit
abbrev dF:=List V_×FS×L_×Unit
abbrev T_:=List V_×Bool×Unit
abbrev bT:=List V_×Int×List ByteArray×Unit
abbrev bU:=List V_×Int×List ByteArray×List ByteArray×Unit
abbrev cc:=bD×Int×bD×Unit
abbrev aX:=N_×Int×N_×Unit
abbrev dX:=N_×N_×Unit
abbrev bV:=N_×Int×List ByteArray×N_×Unit
abbrev dG:=N_×HO×Int×FS×N_×HO×Unit
abbrev fK:=List ByteArray×List ByteArray×Unit
abbrev dH:=Int×N_×N_×FS×N_×Unit
abbrev dI:=Int×List FS×N_×FS×N_×N_×List FS×Unit
abbrev dJ:=Int×Int×List ByteArray×N_×N_×FS×N_×Unit
def E0:Eo:=⟨D.Env.empty tyOf,EOk.empty _ _⟩
def isOwnGuess (s:bE):Bool:=!s.guess||decide (s.to.host=s.top)
abbrev GH:Fct:=⟨[aE .sent],[rB],λ_=>True,λx=>(isOwnGuess x.1,())⟩
def E1:=E0.a GH<|Fct.o [1,2] E0.2 func9 (by
 rintro⟨(s:bE),_⟩ hp;refine ho (.br (!s.guess) (.lf GH (true,())) (.lf GH (s.to.host.toList==s.top.toList,()))) ?_;refine Aa (λh1=>lfY ?_) λh1=>lfY ?_;all_goals
  try simp only[AA] at *
  try simp only[std,Nat.reduceAdd,isOwnGuess] at *
 all_goals first|trivial|(simp_all;done)|grind)
def countGuess:List ao->Nat
 | []=>0
 | c::l=>countGuess l+(if c.guess then 1 else 0)
def Pq (l:List ao):countGuess l<=l.length:=by
 induction l with
 | nil=>simp[countGuess]
 | cons d l ih=>simp only[countGuess,aq];split<;>omega
abbrev AbI:Fct:=⟨[.v (.sl .conn)],[.el .int],λ(x:eE)=>x.1.length<=1048576,λ(x:eE)=>((countGuess x.1:Int),())⟩
abbrev A2 (l:(List ao)):LInv:=⟨[⟨.s,3,true,.el .int⟩,⟨.s,4,true,.el .int⟩],λ_ (x:bI)=>0<=x.2.1/\x.2.1<=l.length/\0<=x.1/\x.1<=x.2.1/\x.1+countGuess (l.drop x.2.1.toNat)=countGuess l,λ(x:bI)=>l.length-x.2.1.toNat⟩
def E2:=E1.a AbI<|Fct.p (KP [0,2,3,4] [8,15]) (λ⟨l,_⟩=>lv [(3,A2 l)]) E1.2 func178 (by
 rintro⟨(l:List ao),_⟩ hp;exact hg (.lq (Int×Int×PUnit) (A2 l).inv (A2 l).m ((0:Int),((0:Int),())) λy1 bk1=>.br (decide (y1.2.1<(l.length:Int))) (.ob (inB y1.2.1 l.length)<|.br ((l.getD y1.2.1.toNat default).guess) (.re (l)<|.re (Value.int IntKind.i64 (0:Int))<|.bk (bk1 (w1 y1.1,(w1 y1.2.1,())))) (.re (l)<|.re (Value.int IntKind.i64 (0:Int))<|.bk (bk1 (y1.1,(w1 y1.2.1,()))))) (.lf AbI (y1.1,()))) (an_ @countGuess.eq_1<|@countGuess.eq_2))
def findConn (a:FS):List ao->Int->Int
 | [],_=>-1
 | c::l,i=>if c.to=a then i else findConn a l (i+1)
def Nr {a:FS} {l:List ao} {i:Nat} {z:Int} (h:i<l.length):findConn a (l.drop i) z=if(l.getD i default).to=a then z else findConn a (l.drop (i+1)) (z+1):=by rw[B_ h];rfl
def RU {a:FS} {l:List ao} {i:Nat} {z:Int} (h:l.length<=i):findConn a (l.drop i) z = -1:=by rw[bQ h];rfl
def AgJ (x y:FS):(x.host==y.host&&(x.path==y.path&&true))=decide (x=y):=De x y
abbrev Ade:Fct:=⟨[aL .conn,aE .addr],[rI],λ(x:List ao×FS×Unit)=>x.1.length<=1048576,λx=>(findConn x.2.1 x.1 0,())⟩
abbrev Lfind (l:List ao) (a:FS):LInv:=⟨[⟨.s,5,true,.el .int⟩,⟨.b,3,true,.el .addr⟩],λ_ (x:dl)=>0<=x.1/\x.1<=l.length/\x.2.1=a/\findConn a l 0=findConn a (l.drop x.1.toNat) x.1,λ(x:dl)=>l.length-x.1.toNat⟩
def E3:=E2.a Ade<|Fct.p (KP [0,3,4,5] [9,18]) (λ⟨l,a,_⟩=>lv [(2,Lfind l a)]) E2.2 func181 (by
 rintro⟨(l:List ao),(a:FS),_⟩ hp;refine ho (lpx (Lfind l a) ((0:Int),(a,())) λ(y1:dl) bk1=>.br (decide (y1.1<(l.length:Int))) (.ob (inB y1.1 l.length)<|.br ((l.getD y1.1.toNat default).to.host==y1.2.1.host&&((l.getD y1.1.toNat default).to.path==y1.2.1.path&&true)) (.lf Ade (y1.1,())) (.ob (l=l)<|.ob (bk1 (w1 y1.1,(y1.2.1,())))<|.ok)) (.lf Ade ((-1:Int),()))) ?_;refine Aq ?_ λ(y1:dl) i1=>Aa (λh2=>Ac ?_ λ_=>Aa (λh4=>lfY ?_) λh4=>Ac rfl λ_=>Ac ?_ λ_=>trivial) (λh2=>lfY ?_)<;>(try simp only[AA] at *)<;>(try simp only[Lfind,std,Nat.reduceAdd] at *)<;>(try simp only[AgJ,av,cy] at *)
 ·first|omega|exact⟨o_,o_,by simp⟩
 ·omega
 ·rw[Nr o_,G_ (h4.trans i1.2.2.1)] at i1;exact i1.2.2.2.symm
 ·rw[Nr o_,F_ λh=>h4 (h.trans i1.2.2.1.symm)] at i1;have hn:l.length<=1048576:=hp;rw[Aw o_,C_ o_];exact⟨⟨o_,o_,i1.2.2.1,i1.2.2.2⟩,o_⟩
 ·rw[RU o_] at i1;exact i1.2.2.2.symm)
def firstDone:List ao->Int->Int
 | [],_=>-1
 | c::l,i=>if c.left<=0 then i else firstDone l (i+1)
def Lr {l:List ao} {i:Nat} {z:Int} (h:i<l.length):firstDone (l.drop i) z=if(l.getD i default).left<=0 then z else firstDone (l.drop (i+1)) (z+1):=by rw[B_ h];rfl
def QS {l:List ao} {i:Nat} {z:Int} (h:l.length<=i):firstDone (l.drop i) z = -1:=by rw[bQ h];rfl
abbrev Vw:Fct:=⟨[aL .conn],[rI],λ(x:eE)=>x.1.length<=1048576,λx=>(firstDone x.1 0,())⟩
abbrev Lfirst (l:List ao):LInv:=⟨[⟨.s,3,true,.el .int⟩],λ_ (x:E_)=>0<=x.1/\x.1<=l.length/\firstDone l 0=firstDone (l.drop x.1.toNat) x.1,λ(x:E_)=>l.length-x.1.toNat⟩
def E4:=E3.a Vw<|Fct.p (KP [0,2,3] [7,15]) (λ⟨l,_⟩=>lv [(2,Lfirst l)]) E3.2 func183 (by
 rintro⟨(l:List ao),_⟩ hp;refine ho (lpx (Lfirst l) ((0:Int),()) λ(y1:E_) bk1=>.br (decide (y1.1<(l.length:Int))) (.ob (inB y1.1 l.length)<|.br (decide ((l.getD y1.1.toNat default).left<=0)) (.lf Vw (y1.1,())) (.ob (l=l)<|.ob (bk1 (w1 y1.1,()))<|.ok)) (.lf Vw ((-1:Int),()))) ?_;refine Aq ?_ λ(y1:E_) i1=>Aa (λh2=>Ac ?_ λ_=>Aa (λh4=>lfY ?_) λh4=>Ac rfl λ_=>Ac ?_ λ_=>trivial) (λh2=>lfY ?_)<;>(try simp only[AA] at *)<;>(try simp only[Lfirst,std,Nat.reduceAdd] at *)<;>(try simp only[AgJ,av,cy] at *)
 ·first|omega|exact⟨o_,o_,by simp⟩
 ·omega
 ·rw[Lr o_,G_ h4] at i1;exact i1.2.2.symm
 ·rw[Lr o_,F_ o_] at i1;have hn:l.length<=1048576:=hp;rw[Aw o_,C_ o_];exact⟨⟨o_,o_,i1.2.2⟩,o_⟩
 ·rw[QS o_] at i1;exact i1.2.2.symm)
def inRange (n lo hi:Int):Bool:=decide (lo<=n)&&decide (n<=hi)
abbrev AC:Fct:=⟨[aI,aI,aI],[rB],λ_=>True,λ(x:Int×Int×Int×Unit)=>(inRange x.1 x.2.1 x.2.2.1,())⟩
def E5:=E4.a AC<|Fct.o [0,1,2,6] E4.2 func101 (by
 rintro⟨(n:Int),(lo:Int),(hi:Int),_⟩ hp;refine ho (.br (decide (n>=lo)) (.lf AC (decide (n<=hi),())) (.lf AC (false,()))) ?_;refine Aa (λh1=>lfY ?_) λh1=>lfY ?_;all_goals
  try simp only[AA] at *
  try simp only[std,Nat.reduceAdd,inRange] at *
 all_goals first|trivial|(simp_all;done)|(simp_all;omega)|grind)
abbrev Ajt:Fct:=⟨[aI,aI],[rI],λ_=>True,λ(x:bI)=>(max x.1 x.2.1,())⟩
def E6:=E5.a Ajt<|Fct.o (KP [0,1,4] [7]) E5.2 func94 (by
 rintro⟨(a:Int),(b:Int),_⟩ hp;refine ho (.br (decide (b>a)) (.lf Ajt (b,())) (.lf Ajt (a,()))) ?_;refine Aa (λh1=>lfY ?_) λh1=>lfY ?_;all_goals
  try simp only[AA] at *
  try simp only[std,Nat.reduceAdd] at *
 all_goals first|trivial|omega|(simp_all;done)|(simp_all;omega)|grind)
abbrev Aju:Fct:=⟨[aL .conn],[rL .conn],λ(x:eE)=>x.1.length<=1048576,λ(x:eE)=>(x.1,())⟩
def moveOne (b:Int) (c:ao):ao:={ c with left:=max 0 (IntKind.i64.wrap (c.left-b))}
def moveConns (l:List ao) (b:Int):List ao:=if inRange b 0 1000 then l.map (moveOne b) else l
abbrev AeY:Fct:=⟨[aL .conn,aI],[rL .conn],λ(x:fS)=>x.1.length<=1048576,λ(x:fS)=>(moveConns x.1 x.2.1,())⟩
abbrev L45 (l:List ao) (b:Int):LInv:=⟨[⟨.s,6,true,.el .int⟩,⟨.s,5,true,.sl .conn⟩],λ_ (x:fT)=>0<=x.1/\x.1<=l.length/\x.2.1=moveConns (l.take x.1.toNat) b++l.drop x.1.toNat,λ(x:fT)=>l.length-x.1.toNat⟩
def DX (l:List ao) (b:Int):(moveConns l b).length=l.length:=by unfold moveConns;split<;>simp
def Re (b:Int):moveConns [] b=[]:=by unfold moveConns;split<;>rfl
def NV {l:List ao} {b:Int} {i:Nat} (hb:inRange b 0 1000=true) (h:i<l.length) {g:ao->ao} (hg:g (l.getD i default)=moveOne b (l.getD i default)):(moveConns (l.take i) b++l.drop i).modify i g=moveConns (l.take (i+1)) b++l.drop (i+1):=by
 rw[B_ h,Aam (by rw[DX,cX];omega),P_ h];simp only[moveConns,hb,aC,fG,bz,List.map_nil,bF,cj,ew,hg]
def Py {l:List ao} {b:Int} {i:Nat} (hb:inRange b 0 1000=false):moveConns (l.take i) b++l.drop i=moveConns l b:=by
 simp[moveConns,hb]
def E7:=E6.a AeY<|Fct.p (KP [0,1,4,5,6] [17]) (λ⟨l,b,_⟩=>lv [(3,L45 l b)]) E6.2 func182 (by
 rintro⟨(l:List ao),(b:Int),_⟩ hp;refine ho (.ob (True)<|.ob (IJ (0+l.length) 112)<|lpx (L45 l b) ((0:Int),([]++l,())) λ(y2:fT) bk2=>.br (decide (y2.1<(l.length:Int))) (.cl AC (b,(0:Int),(1000:Int),()) λz2=>.br (z2.1) (.ob (inB y2.1 l.length)<|.cl Ajt ((0:Int),wr ((l.getD y2.1.toNat default).left-b),()) λ(z3:E_)=>.ob (inB y2.1 y2.2.1.length)<|.ob (y2.1.toNat<y2.2.1.length)<|.lt (List ao) (y2.2.1.modify y2.1.toNat λz=>(⟨z.to,z3.1,z.guess,z.bd⟩:ao)) λz4=>.ob (l=l)<|.ob (Value.int IntKind.i64 b=Value.int IntKind.i64 b)<|.ob (bk2 (w1 y2.1,(z4,())))<|.ok) (.lf AeY (y2.2.1,()))) (.lf AeY (y2.2.1,()))) ?_;refine Ac trivial λ_=>Ac ?_ λ_=>Aq ?_ λ(y2:fT) i2=>Aa (λh3=>Aj trivial λ_=>Aa (λh4=>Ac ?_ λ_=>Aj trivial λ_=>Ac ?_ λ_=>Ac ?_ λ_=>K6 (Ac rfl λ_=>Ac rfl λ_=>Ac ?_ λ_=>trivial)) λh4=>lfY ?_) (λh3=>lfY ?_)<;>(try simp only[AA] at *)<;>(try simp only[L45,std,Nat.reduceAdd] at *)<;>(try have hln:y2.2.1.length=l.length:=by rw[i2.2.2,ak,DX,cX,fP];omega)
 ·omega
 ·exact⟨o_,o_,by simp[Re]⟩
 ·omega
 ·omega
 ·omega
 ·rw[Aw o_,C_ o_,i2.2.2,NV h4 o_ (by simp[moveOne,Ajt])];exact⟨⟨o_,o_,rfl⟩,o_⟩
 ·rw[i2.2.2,Py h4]
 ·rw[i2.2.2,ci o_,bQ o_,cz])
def sizeResponse (x:L_):Int:=x.body.size+20
abbrev GW:Fct:=⟨[aE .bd],[rI],λ(x:al)=>x.1.body.size<=1000000000000,λ(x:al)=>(sizeResponse x.1,())⟩
def E8:=E7.a GW<|Fct.o [1,2] E7.2 func207 (by
 rintro⟨(x:L_),_⟩ hp;refine ho (.lf GW (wr ((x.body.size:Int)+20),())) ?_;refine lfY ?_;all_goals
  try simp only[AA] at *
  try simp only[std,Nat.reduceAdd,sizeResponse] at *
 rw[Aw o_])
def openConn (l:List ao) (a:FS) (x:L_) (g:Bool):List ao×Bool:=if(l.length:Int)>=3\/findConn a l 0>=0 then(l,false) else(l++[⟨a,sizeResponse x,g,x⟩],true)
abbrev Yy:Fct:=⟨[aL .conn,aE .addr,aE .bd,aB],[rL .conn,rB],λ(x:gX)=>x.1.length<=1048576/\x.2.2.1.body.size<=1048576,λ(x:gX)=>((openConn x.1 x.2.1 x.2.2.1 x.2.2.2.1).1,(openConn x.1 x.2.1 x.2.2.1 x.2.2.2.1).2,())⟩
def E9:=E8.a Yy<|Fct.o (KP [0,3,5,6,8,9,10] [22]) E8.2 func176 (by
 rintro⟨(l:List ao),(a:FS),(x:L_),(g:Bool),_⟩ hp;refine ho (.ap (0+List.length l) 112<|.br (decide ((↑(List.length l):Int)>=3)) (.lf Yy ([]++l,false,())) (.cl Ade (l,a,()) λ(z2:E_)=>.br (decide (z2.1>=0)) (.lf Yy ([]++l,false,())) (.cl GW (x,()) λ(z3:E_)=>.ap (([]++l).length+[(⟨a,z3.1,g,x⟩:ao)].length) 112<|.lf Yy ([]++l++[(⟨a,z3.1,g,x⟩:ao)],true,())))) ?_;refine EG ?_ λ_=>Aa (λh2=>lfY ?_) (λh2=>Aj ?_ λ_=>Aa (λh4=>lfY ?_) λh4=>Aj ?_ λ_=>EG ?_ λ_=>lfY ?_)<;>(have hp1:l.length<=1048576:=hp.1;have hp3:x.body.size<=1048576:=hp.2;clear hp;try simp only[AA] at *)<;>(try simp only[std,Nat.reduceAdd,ak,aq,aU] at *)<;>(first|trivial|omega|(simp[openConn,h2];done)|(simp[openConn,h4];done)|(have hh:¬ ((3:Int)<=(l.length:Int)\/0<=findConn a l 0):=by omega;simp[openConn,hh];done)|skip)<;>(rw[openConn,F_ (show ¬ ((l.length:Int)>=3\/findConn a l 0>=0) by rintro(h|h)<;>omega)];exact⟨rfl,rfl⟩))
abbrev GM:Fct:=⟨[.v (.sl .addr),.v (.el .addr)],[.el .int],λ(x:fF)=>x.1.length<=1000000000000000000,λ(x:fF)=>(AQ (λc=>decide (c=x.2.1)) x.1 0,())⟩
abbrev Ap (l:(List FS)) (a:FS):LInv:=⟨[⟨.s,8,true,.el .int⟩,⟨.b,3,true,.el .addr⟩],λ(z x:dl)=>(0<=x.1/\x.1<=l.length/\AQ (λc=>decide (c=a)) l 0=AQ (λc=>decide (c=a)) (l.drop x.1.toNat) x.1)/\x.2.1=z.2.1,λ(x:dl)=>l.length-x.1.toNat⟩
def E10:=E9.a GM<|Fct.p (KP [0,3,4,5,7,8] [9,16]) (λ⟨l,a,_⟩=>lv [(2,Ap l a)]) E9.2 func77 (by
 rintro⟨(l:List FS),(a:FS),_⟩ hp;exact hg (.lq (Int×FS×PUnit) (Ap l a).inv (Ap l a).m ((0:Int),(a,())) λy1 bk1=>.br (decide (y1.1<(l.length:Int))) (.ob (inB y1.1 l.length)<|.br (y1.2.1.host==(l.getD y1.1.toNat default).host&&(y1.2.1.path==(l.getD y1.1.toNat default).path&&true)) (.lf GM (y1.1,())) (.re (l)<|.re (Value.int IntKind.i64 (l.length:Int))<|.bk (bk1 (w1 y1.1,(y1.2.1,()))))) (.lf GM ((-1:Int),()))) (an_ @AQ.eq_1<|@AQ.eq_2))
abbrev F8:Fct:=⟨[.v (.sl .addr),.v (.el .addr)],[.el .bool],λ(x:fF)=>x.1.length<=1000000000000000000,λ(x:fF)=>(x.1.any λc=>decide (c=x.2.1),())⟩
def E11:=E10.a F8<|Fct.o [0,3,4] E10.2 func36 (by
 rintro⟨(l:List FS),(a:FS),_⟩ hp;refine ho (.cl GM (l,a,()) λ(z2:E_)=>.lf F8 (decide (z2.1>=0),())) ?_;refine Aj ?_ λ_=>(lfY ?_)<;>(try simp only[AA] at *)<;>(try simp only[std,Nat.reduceAdd] at *)<;>(first|trivial|omega|(rw[Bool.eq_iff_iff];exact decide_eq_true_iff.trans (Gb _ _ _ o_))))
abbrev DC:Fct:=⟨[.v (.sl .addr),.v (.el .addr)],[.el .bool],λ(x:fF)=>x.1.length<=1000000000000000000,λ(x:fF)=>(x.1.any λc=>decide (c=x.2.1),())⟩
abbrev BL (l:(List FS)) (a:FS):LInv:=⟨[⟨.s,5,true,.el .int⟩,⟨.b,3,true,.el .addr⟩],λ(z x:dl)=>(0<=x.1/\x.1<=l.length/\l.any (λc=>decide (c=a))=(l.drop x.1.toNat).any λc=>decide (c=a))/\x.2.1=z.2.1,λ(x:dl)=>l.length-x.1.toNat⟩
def E12:=E11.a DC<|Fct.p (KP [0,3,4,5] [9,17]) (λ⟨l,a,_⟩=>lv [(2,BL l a)]) E11.2 func149 (by
 rintro⟨(l:List FS),(a:FS),_⟩ hp;exact hq (.lq (Int×FS×PUnit) (BL l a).inv (BL l a).m ((0:Int),(a,())) λy1 bk1=>.br (decide (y1.1<(l.length:Int))) (.ob (inB y1.1 l.length)<|.br ((l.getD y1.1.toNat default).host==y1.2.1.host&&((l.getD y1.1.toNat default).path==y1.2.1.path&&true)) (.lf DC (true,())) (.re (l)<|.bk (bk1 (w1 y1.1,(y1.2.1,()))))) (.lf DC (false,()))))
def E13:=E12.a DC<|Fct.o [0,3,4] E12.2 func12 (by
 rintro⟨(l:List FS),(a:FS),_⟩ hp;exact hq (.cl F8 (l,a,()) λz2=>.lf DC (z2.1,())))
def withoutAddrs (d:List FS):List ay->List ay
 | []=>[]
 | r::l=>if d.any (λc=>decide (c=r.to)) then withoutAddrs d l else r::withoutAddrs d l
abbrev GQ:Fct:=⟨[.v (.sl .request),.v (.sl .addr)],[.sl .request],λ(x:gY)=>x.1.length<=1000000000000/\x.2.1.length<=1048576,λ(x:gY)=>(withoutAddrs x.2.1 x.1,())⟩
abbrev AS (l:(List ay)) (d:(List FS)):LInv:=⟨[⟨.s,5,true,.sl .request⟩,⟨.s,6,true,.el .int⟩],λ_ (x:eJ)=>0<=x.2.1/\x.2.1<=l.length/\x.1.length<=x.2.1/\withoutAddrs d l=x.1++withoutAddrs d (l.drop x.2.1.toNat),λ(x:eJ)=>l.length-x.2.1.toNat⟩
def E14:=E13.a GQ<|Fct.p (KP [0,1,4,5,6] [11,21]) (λ⟨l,d,_⟩=>lv [(3,AS l d)]) E13.2 func172 (by
 rintro⟨(l:List ay),(d:List FS),_⟩ hp;exact hg (.lq (List ay×Int×PUnit) (AS l d).inv (AS l d).m ([],((0:Int),())) λy1 bk1=>.br (decide (y1.2.1<(l.length:Int))) (.ob (inB y1.2.1 l.length)<|.cl DC (d,(l.getD y1.2.1.toNat default).to,()) λz2=>.br (!z2.1) (.ob (inB y1.2.1 l.length)<|.ap (y1.1.length+[l.getD y1.2.1.toNat default].length) 72<|.re (l)<|.re (d)<|.bk (bk1 (y1.1++[l.getD y1.2.1.toNat default],(w1 y1.2.1,())))) (.re (l)<|.re (d)<|.bk (bk1 (y1.1,(w1 y1.2.1,()))))) (.lf GQ (y1.1,()))) (an_ @withoutAddrs.eq_1<|@withoutAddrs.eq_2))
def LB (d:List FS) (l:List ay):(withoutAddrs d l).length<=l.length:=by
 induction l<;>grind[withoutAddrs]
abbrev Iu:Fct:=⟨[.v (.sl .str),.v (.el .str)],[.el .int],λ(x:dt)=>x.1.length<=1000000000000000000,λ(x:dt)=>(AQ (λc=>decide (c=x.2.1)) x.1 0,())⟩
abbrev Ay (l:(List ByteArray)) (a:ByteArray):LInv:=⟨[⟨.s,8,true,.el .int⟩],λ_ (x:E_)=>0<=x.1/\x.1<=l.length/\AQ (λc=>decide (c=a)) l 0=AQ (λc=>decide (c=a)) (l.drop x.1.toNat) x.1,λ(x:E_)=>l.length-x.1.toNat⟩
def E15:=E14.a Iu<|Fct.p (KP [0,1,4,5,7,8] [9,16]) (λ⟨l,a,_⟩=>lv [(2,Ay l a)]) E14.2 func78 (by
 rintro⟨(l:List ByteArray),(a:ByteArray),_⟩ hp;exact hg (.lq (Int×PUnit) (Ay l a).inv (Ay l a).m ((0:Int),()) λy1 bk1=>.br (decide (y1.1<(l.length:Int))) (.ob (inB y1.1 l.length)<|.br (a.toList==(l.getD y1.1.toNat default).toList) (.lf Iu (y1.1,())) (.re (l)<|.re (Value.string a)<|.re (Value.int IntKind.i64 (l.length:Int))<|.bk (bk1 (w1 y1.1,())))) (.lf Iu ((-1:Int),()))) (an_ @AQ.eq_1<|@AQ.eq_2))
abbrev EX:Fct:=⟨[.v (.sl .str),.v (.el .str)],[.el .bool],λ(x:dt)=>x.1.length<=1000000000000000000,λ(x:dt)=>(x.1.any λc=>decide (c=x.2.1),())⟩
def E16:=E15.a EX<|Fct.o [0,1,4] E15.2 func37 (by
 rintro⟨(l:List ByteArray),(a:ByteArray),_⟩ hp;refine ho (.cl Iu (l,a,()) λ(z2:E_)=>.lf EX (decide (z2.1>=0),())) ?_;refine Aj ?_ λ_=>(lfY ?_)<;>(try simp only[AA] at *)<;>(try simp only[std,Nat.reduceAdd] at *)<;>(first|trivial|omega|(rw[Bool.eq_iff_iff];exact decide_eq_true_iff.trans (Gb _ _ _ o_))))
abbrev SU:Fct:=⟨[.v (.sl .str),.v (.el .str)],[.el .bool],λ(x:dt)=>x.1.length<=1000000000000000000,λ(x:dt)=>(x.1.any λc=>decide (c=x.2.1),())⟩
abbrev CV (l:(List ByteArray)) (s:ByteArray):LInv:=⟨[⟨.s,5,true,.el .int⟩],λ_ (x:E_)=>0<=x.1/\x.1<=l.length/\l.any (λc=>decide (c=s))=(l.drop x.1.toNat).any λc=>decide (c=s),λ(x:E_)=>l.length-x.1.toNat⟩
def E17:=E16.a SU<|Fct.p (KP [0,1,4,5] [9,17]) (λ⟨l,s,_⟩=>lv [(2,CV l s)]) E16.2 func40 (by
 rintro⟨(l:List ByteArray),(s:ByteArray),_⟩ hp;exact hq (.lq (Int×PUnit) (CV l s).inv (CV l s).m ((0:Int),()) λy1 bk1=>.br (decide (y1.1<(l.length:Int))) (.ob (inB y1.1 l.length)<|.br ((l.getD y1.1.toNat default).toList==s.toList) (.lf SU (true,())) (.re (l)<|.re (Value.string s)<|.bk (bk1 (w1 y1.1,())))) (.lf SU (false,()))))
abbrev Jh:Fct:=⟨[.v (.el .page)],[.el .bool],λ(x:ai)=>True,λ(x:ai)=>(x.1.loaded,())⟩
def E18:=E17.a Jh<|Fct.o [1,2] E17.2 func96 (by
 rintro⟨(p:HO),_⟩ hp;refine ho (.lf Jh (p.loaded,())) ?_;refine lfY ?_;all_goals
  try simp only[AA] at *
  try simp only[std,Nat.reduceAdd] at *
 all_goals first|trivial|omega|(simp_all;done)|(simp_all;omega)|grind)
def blockedOn (p:HO):FS×Bool:=if 1<=p.block/\p.block<=p.bf.length then((p.bf.getD (p.block-1).toNat default).to,true) else(default,false)
abbrev Iz:Fct:=⟨[.v (.el .page)],[.el .addr,.el .bool],λ(x:ai)=>x.1.bf.length<=1000000000000/\-9223372036854775808<=x.1.block/\x.1.block<=9223372036854775807,λ(x:ai)=>((blockedOn x.1).1,(blockedOn x.1).2,())⟩
def E19:=E18.a Iz<|Fct.o (KP [1,2,3] [10]) E18.2 func221 (by
 rintro⟨(p:HO),_⟩ hp;exact hg (.cl AC (p.block,(1:Int),(p.bf.length:Int),()) λz2=>.br (!z2.1) (.lf Iz (default,false,())) (.ob (0<=wr (p.block-(1:Int))/\wr (p.block-(1:Int))<(p.bf.length:Int))<|.lf Iz ((p.bf.getD (wr (p.block-(1:Int))).toNat default).to,true,()))) (an_ @blockedOn.eq_1<|@inRange.eq_1))
def classOf (p:HO) (r:ay):Int:=if(blockedOn p).2=true/\(blockedOn p).1=r.to then 0 else if r.kind=3 then 1 else if r.kind=2 then 2 else if r.kind=5 then 3 else if r.kind=4 then 4 else 5
abbrev EQ:Fct:=⟨[.v (.el .page),.v (.el .request)],[.el .int],λ(x:HO×ay×Unit)=>x.1.bf.length<=1000000000000/\-9223372036854775808<=x.1.block/\x.1.block<=9223372036854775807,λ(x:HO×ay×Unit)=>(classOf x.1 x.2.1,())⟩
def E20:=E19.a EQ<|Fct.o (KP [2,3,4,5,6,20] [18,21,23,25,27]) E19.2 func206 (by
 rintro⟨(p:HO),(r:ay),_⟩ hp;exact hg (let H_:Out:=.br (r.kind==3) (.lf EQ ((1:Int),())) (.br (r.kind==2) (.lf EQ ((2:Int),())) (.br (r.kind==5) (.lf EQ ((3:Int),())) (.br (r.kind==4) (.lf EQ ((4:Int),())) (.lf EQ ((5:Int),())))));.cl Iz (p,()) λz2=>.br (z2.2.1) (.br (z2.1.host==r.to.host&&(z2.1.path==r.to.path&&true)) (.lf EQ ((0:Int),())) H_) H_) (@classOf.eq_1))
abbrev LQ:Fct:=⟨[.v (.el .net)],[.sl .str],λ(x:bC)=>x.1.log.length<=1048576,λ(x:bC)=>(uniqBy (λs=>s.to.host) [] x.1.log,())⟩
abbrev Da (n:N_):LInv:=⟨[⟨.s,3,true,.sl .str⟩,⟨.s,10,true,.el .int⟩],λ_ (x:eK)=>0<=x.2.1/\x.2.1<=n.log.length/\x.1.length<=x.2.1/\uniqBy (λs=>s.to.host) x.1 (n.log.drop x.2.1.toNat)=uniqBy (λs=>s.to.host) [] n.log,λ(x:eK)=>n.log.length-x.2.1.toNat⟩
def E21:=E20.a LQ<|Fct.p (KP [1,2,3,5,8,9,10] [11,19]) (λ⟨n,_⟩=>lv [(3,Da n)]) E20.2 func13 (by
 rintro⟨(n:N_),_⟩ hp;refine ho (lpx (Da n) ([],((0:Int),())) λ(y1:eK) bk1=>.br (decide (y1.2.1<(n.log.length:Int))) (.ob (inB y1.2.1 n.log.length)<|.cl EX (y1.1,(n.log.getD y1.2.1.toNat default).to.host,()) λz2=>.br (!z2.1) (.ap (y1.1.length+[(n.log.getD y1.2.1.toNat default).to.host].length) 16<|.re (n.log)<|.re (Value.int IntKind.i64 (n.log.length:Int))<|.bk (bk1 (y1.1++[(n.log.getD y1.2.1.toNat default).to.host],(w1 y1.2.1,())))) (.re (n.log)<|.re (Value.int IntKind.i64 (n.log.length:Int))<|.bk (bk1 (y1.1,(w1 y1.2.1,()))))) (.lf LQ (y1.1,()))) ?_;refine Aq ?_ λ(y1:eK) i1=>Aa (λh2=>Ac ?_ λ_=>Aj ?_ λ_=>Aa (λh5=>EG ?_ λ_=>An<|An<|AR ?_) λh5=>An<|An<|AR ?_) (λh2=>lfY ?_)<;>(try simp only[AA] at *)<;>(try simp only[std,Nat.reduceAdd,uniqBy] at *)<;>(try simp(disch:=omega) only[A_,C_] at *)<;>(try simp(disch:=omega) only[G_,F_])<;>(first|trivial|omega|grind[A_,C_,B_,K_,I_,maxLen,uniqBy]))
abbrev Jr:Fct:=⟨[.v (.el .net),.v (.el .str)],[.sl .sent],λ(x:cQ)=>x.1.log.length<=1048576,λ(x:cQ)=>(x.1.log.filter λs=>decide (s.to.host=x.2.1),())⟩
abbrev DN (n:N_) (h:ByteArray):LInv:=⟨[⟨.s,5,true,.sl .sent⟩,⟨.s,6,true,.el .int⟩,⟨.b,2,false,.el .net⟩],λ(z x:eL)=>(0<=x.2.1/\x.2.1<=n.log.length/\x.1.length<=x.2.1/\x.1++(n.log.drop x.2.1.toNat).filter (λs=>decide (s.to.host=h))=n.log.filter λs=>decide (s.to.host=h))/\x.2.2.1=z.2.2.1,λ(x:eL)=>n.log.length-x.2.1.toNat⟩
def E22:=E21.a Jr<|Fct.p (KP [1,2,4,5,6] [12,23]) (λ⟨n,h,_⟩=>lv [(3,DN n h)]) E21.2 func14 (by
 rintro⟨(n:N_),(h:ByteArray),_⟩ hp;refine ho (lpx (DN n h) ([],((0:Int),(n,()))) λ(y1:eL) bk1=>.br (decide (y1.2.1<(y1.2.2.1.log.length:Int))) (.ob (inB y1.2.1 y1.2.2.1.log.length)<|.br ((y1.2.2.1.log.getD y1.2.1.toNat default).to.host.toList==h.toList) (.ob (inB y1.2.1 y1.2.2.1.log.length)<|.ap (y1.1.length+[y1.2.2.1.log.getD y1.2.1.toNat default].length) 56<|.re (Value.string h)<|.bk (bk1 (y1.1++[y1.2.2.1.log.getD y1.2.1.toNat default],(w1 y1.2.1,(y1.2.2.1,()))))) (.re (Value.string h)<|.bk (bk1 (y1.1,(w1 y1.2.1,(y1.2.2.1,())))))) (.lf Jr (y1.1,()))) ?_;refine Aq ?_ λ(y1:eL) i1=>Aa (λh2=>Ac ?_ λ_=>Aa (λh4=>Ac ?_ λ_=>EG ?_ λ_=>An<|AR ?_) λh4=>An<|AR ?_) (λh2=>lfY ?_)<;>(try simp only[AA] at *)<;>(try simp only[std,Nat.reduceAdd] at *)<;>(try simp(disch:=omega) only[A_,C_] at *)<;>(try simp(disch:=omega) only[G_,F_])<;>(first|trivial|omega|grind[A_,C_,B_,K_,I_,maxLen]))
abbrev DE (n:N_) (h:ByteArray):LInv:=⟨[⟨.s,5,true,.sl .sent⟩,⟨.s,12,true,.el .int⟩],λ_ (x:eN)=>0<=x.2.1/\x.2.1<=n.log.length/\x.1.length<=x.2.1/\x.1++(n.log.drop x.2.1.toNat).filter (λs=>decide (s.to.host=h))=n.log.filter λs=>decide (s.to.host=h),λ(x:eN)=>n.log.length-x.2.1.toNat⟩
def E23:=E22.a Jr<|Fct.p (KP [1,2,4,5,7,10,11,12] [13,20]) (λ⟨n,h,_⟩=>lv [(3,DE n h)]) E22.2 func39 (by
 rintro⟨(n:N_),(h:ByteArray),_⟩ hp;refine ho (lpx (DE n h) ([],((0:Int),())) λ(y1:eN) bk1=>.br (decide (y1.2.1<(n.log.length:Int))) (.ob (inB y1.2.1 n.log.length)<|.br ((n.log.getD y1.2.1.toNat default).to.host.toList==h.toList) (.ap (y1.1.length+[n.log.getD y1.2.1.toNat default].length) 56<|.re (Value.string h)<|.re (n.log)<|.re (Value.int IntKind.i64 (n.log.length:Int))<|.bk (bk1 (y1.1++[n.log.getD y1.2.1.toNat default],(w1 y1.2.1,())))) (.re (Value.string h)<|.re (n.log)<|.re (Value.int IntKind.i64 (n.log.length:Int))<|.bk (bk1 (y1.1,(w1 y1.2.1,()))))) (.lf Jr (y1.1,()))) ?_;refine Aq ?_ λ(y1:eN) i1=>Aa (λh2=>Ac ?_ λ_=>Aa (λh4=>EG ?_ λ_=>An<|An<|An<|AR ?_) λh4=>An<|An<|An<|AR ?_) (λh2=>lfY ?_)<;>(try simp only[AA] at *)<;>(try simp only[std,Nat.reduceAdd] at *)<;>(try simp(disch:=omega) only[A_,C_] at *)<;>(try simp(disch:=omega) only[G_,F_])<;>(first|trivial|omega|grind[A_,C_,B_,K_,I_,maxLen]))
def topsOf (n:N_) (h:ByteArray):List ByteArray:=uniqBy (λs=>s.top) [] (n.log.filter λs=>decide (s.to.host=h))
def Na {α:Type} (p:α->Bool) (l:List α):(l.filter p).length<=l.length:=List.length_filter_le p l
abbrev Kw:Fct:=⟨[.v (.el .net),.v (.el .str)],[.sl .str],λ(x:cQ)=>x.1.log.length<=1048576,λ(x:cQ)=>(topsOf x.1 x.2.1,())⟩
abbrev DV (n:N_) (h:ByteArray):LInv:=⟨[⟨.s,5,true,.sl .str⟩,⟨.s,7,true,.el .int⟩,⟨.s,6,true,.sl .sent⟩],λ_ (x:cR)=>0<=x.2.1/\x.2.2.1=n.log.filter (λs=>decide (s.to.host=h))/\x.2.1<=x.2.2.1.length/\x.1.length<=x.2.1/\uniqBy (λs=>s.top) x.1 (x.2.2.1.drop x.2.1.toNat)=topsOf n h,λ(x:cR)=>(n.log.filter λs=>decide (s.to.host=h)).length-x.2.1.toNat⟩
def E24:=E23.a Kw<|Fct.p (KP [1,2,4,5,6,7] [15,25]) (λ⟨n,h,_⟩=>lv [(4,DV n h)]) E23.2 func18 (by
 rintro⟨(n:N_),(h:ByteArray),_⟩ hp;refine ho (.cl Jr (n,h,()) λz2=>lpx (DV n h) ([],((0:Int),(z2.1,()))) λ(y2:cR) bk2=>.br (decide (y2.2.1<(y2.2.2.1.length:Int))) (.ix y2.2.1 y2.2.2.1.length<|.cl SU (y2.1,(y2.2.2.1.getD y2.2.1.toNat default).top,()) λz3=>.br (!z3.1) (.ix y2.2.1 y2.2.2.1.length<|.ap (y2.1.length+[(y2.2.2.1.getD y2.2.1.toNat default).top].length) 16<|.re (Value.string h)<|.bk (bk2 (y2.1++[(y2.2.2.1.getD y2.2.1.toNat default).top],(w1 y2.2.1,(y2.2.2.1,()))))) (.re (Value.string h)<|.bk (bk2 (y2.1,(w1 y2.2.1,(y2.2.2.1,())))))) (.lf Kw (y2.1,()))) ?_;refine Aj ?_ λ_=>(Aq ?_ λ(y2:cR) i2=>Aa (λh3=>CW ?_ λo4 o5=>Aj ?_ λ_=>Aa (λh7=>CW ?_ λo8 o9=>EG ?_ λ_=>An<|AR ?_) λh7=>An<|AR ?_) λh3=>lfY ?_)<;>(have hfl:=Na (λ(s:bE)=>decide (s.to.host=h)) n.log;try simp only[AA] at *)<;>(try simp only[std,Nat.reduceAdd,topsOf,uniqBy] at *)<;>(try simp(disch:=omega) only[A_,C_] at *)<;>(try simp(disch:=omega) only[G_,F_])<;>(first|trivial|omega|grind[A_,C_,B_,K_,I_,maxLen,topsOf,uniqBy]))
abbrev DW (n:N_) (h:ByteArray):LInv:=⟨[⟨.s,5,true,.sl .str⟩,⟨.s,13,true,.el .int⟩,⟨.s,11,true,.sl .sent⟩],λ_ (x:cR)=>0<=x.2.1/\x.2.2.1=n.log.filter (λs=>decide (s.to.host=h))/\x.2.1<=x.2.2.1.length/\x.1.length<=x.2.1/\uniqBy (λs=>s.top) x.1 (x.2.2.1.drop x.2.1.toNat)=topsOf n h,λ(x:cR)=>(n.log.filter λs=>decide (s.to.host=h)).length-x.2.1.toNat⟩
def E25:=E24.a Kw<|Fct.p (KP [1,2,4,5,7,11,12,13] [14,21]) (λ⟨n,h,_⟩=>lv [(3,DW n h)]) E24.2 func17 (by
 rintro⟨(n:N_),(h:ByteArray),_⟩ hp;refine ho (.cl Jr (n,h,()) λz2=>lpx (DW n h) ([],((0:Int),(z2.1,()))) λ(y2:cR) bk2=>.br (decide (y2.2.1<(z2.1.length:Int))) (.ix y2.2.1 y2.2.2.1.length<|.cl EX (y2.1,(y2.2.2.1.getD y2.2.1.toNat default).top,()) λz3=>.br (!z3.1) (.ap (y2.1.length+[(y2.2.2.1.getD y2.2.1.toNat default).top].length) 16<|.re (Value.string h)<|.re (Value.int IntKind.i64 (z2.1.length:Int))<|.bk (bk2 (y2.1++[(y2.2.2.1.getD y2.2.1.toNat default).top],(w1 y2.2.1,(y2.2.2.1,()))))) (.re (Value.string h)<|.re (Value.int IntKind.i64 (z2.1.length:Int))<|.bk (bk2 (y2.1,(w1 y2.2.1,(y2.2.2.1,())))))) (.lf Kw (y2.1,()))) ?_;refine Aj ?_ λ_=>(Aq ?_ λ(y2:cR) i2=>Aa (λh3=>CW ?_ λo4 o5=>Aj ?_ λ_=>Aa (λh7=>EG ?_ λ_=>An<|An<|AR ?_) λh7=>An<|An<|AR ?_) λh3=>lfY ?_)<;>(have hfl:=Na (λ(s:bE)=>decide (s.to.host=h)) n.log;try simp only[AA] at *)<;>(try simp only[std,Nat.reduceAdd,topsOf,uniqBy] at *)<;>(try simp(disch:=omega) only[A_,C_] at *)<;>(try simp(disch:=omega) only[G_,F_])<;>(first|trivial|omega|grind[A_,C_,B_,K_,I_,maxLen,topsOf,uniqBy]))
abbrev Fm:Fct:=⟨[.v (.sl .addr),.v (.sl .addr)],[.el .bool],λ(x:ga)=>x.1.length<=1000000000000000000,λ(x:ga)=>(decide (x.1=x.2.1),())⟩
abbrev Ao (l:(List FS)) (m:(List FS)):LInv:=⟨[⟨.s,13,true,.el .int⟩],λ_ (x:E_)=>0<=x.1/\x.1<=l.length/\l.length=m.length/\decide (l.drop x.1.toNat=m.drop x.1.toNat)=decide (l=m),λ(x:E_)=>l.length-x.1.toNat⟩
def E26:=E25.a Fm<|Fct.p (KP [0,1,4,5,12,13] [10,14,24]) (λ⟨l,m,_⟩=>lv [(4,Ao l m)]) E25.2 func34 (by
 rintro⟨(l:List FS),(m:List FS),_⟩ hp;exact hq (.br ((l.length:Int) != (m.length:Int)) (.lf Fm (false,())) (.lq (Int×PUnit) (Ao l m).inv (Ao l m).m ((0:Int),()) λy2 bk2=>.br (decide (y2.1<(l.length:Int))) (.ob (inB y2.1 l.length)<|.ob (inB y2.1 m.length)<|.br (!((l.getD y2.1.toNat default).host==(m.getD y2.1.toNat default).host&&((l.getD y2.1.toNat default).path==(m.getD y2.1.toNat default).path&&true))) (.lf Fm (false,())) (.re (l)<|.re (m)<|.re (Value.int IntKind.i64 (l.length:Int))<|.bk (bk2 (w1 y2.1,())))) (.lf Fm (true,())))))
def Pc {l:List cP} {i:Nat} (h:i<l.length):(l.getD i default).bq.length+l.length<=szL AF l:=by
 have:=Ct AF h;have h2:=Ad BH (l.getD i default).bq;simp only[AF] at this;omega
def MY {l:List af} {i:Nat} (h:i<l.length):(l.getD i default).bq.length+l.length<=szL szToken l:=by
 have:=Ct szToken h;have h2:=Ad BH (l.getD i default).bq;simp only[szToken] at this;omega
def pickReq (p:HO):List ay->Int->Int->Int->Int
 | [],_,best,_=>best
 | r::l,i,best,bc=>if best<0\/classOf p r<bc then pickReq p l (i+1) i (classOf p r) else pickReq p l (i+1) best bc
abbrev Hy:Fct:=⟨[.v (.el .page),.v (.sl .request)],[.el .int],λ(x:gf)=>x.1.bf.length<=1000000000000/\(-9223372036854775808<=x.1.block/\x.1.block<=9223372036854775807)/\x.2.1.length<=1000000000000,λ(x:gf)=>(pickReq x.1 x.2.1 0 (-1) 0,())⟩
abbrev AV (p:HO) (l:(List ay)):LInv:=⟨[⟨.s,5,true,.el .int⟩,⟨.s,6,true,.el .int⟩,⟨.b,2,false,.el .page⟩],λ(z x:Int×Int×HO×Unit)=>(0<=x.2.1/\x.2.1<=l.length/\-1<=x.1/\x.1<x.2.1/\(x.1 = -1->x.2.1=0)/\pickReq p (l.drop x.2.1.toNat) x.2.1 x.1 (if x.1<0 then 0 else classOf p (l.getD x.1.toNat default))=pickReq p l 0 (-1) 0)/\x.2.2.1=z.2.2.1,λ(x:Int×Int×HO×Unit)=>l.length-x.2.1.toNat⟩
def E27:=E26.a Hy<|Fct.p (KP [1,2,4,5,6] [10,29]) (λ⟨p,l,_⟩=>lv [(3,AV p l)]) E26.2 func174 (by
 rintro⟨(p:HO),(l:List ay),_⟩ hp;exact hg (.lq (Int×Int×HO×PUnit) (AV p l).inv (AV p l).m ((-1:Int),((0:Int),(p,()))) λy1 bk1=>.br (decide (y1.2.1<(l.length:Int))) (.br (decide (y1.1<0)) (.re (l)<|.re (Value.int IntKind.i64 (0:Int))<|.bk (bk1 (y1.2.1,(w1 y1.2.1,(y1.2.2.1,()))))) (.ob (inB y1.2.1 l.length)<|.cl EQ (y1.2.2.1,l.getD y1.2.1.toNat default,()) λ(z2:E_)=>.ob (inB y1.1 l.length)<|.cl EQ (y1.2.2.1,l.getD y1.1.toNat default,()) λ(z3:E_)=>.br (decide (z2.1<z3.1)) (.re (l)<|.re (Value.int IntKind.i64 (0:Int))<|.bk (bk1 (y1.2.1,(w1 y1.2.1,(y1.2.2.1,()))))) (.re (l)<|.re (Value.int IntKind.i64 (0:Int))<|.bk (bk1 (y1.1,(w1 y1.2.1,(y1.2.2.1,()))))))) (.lf Hy (y1.1,()))) (an_ @pickReq.eq_1<|@pickReq.eq_2))
abbrev Rh:Fct:=⟨[.v (.sl .guess)],[.el .int],λ(x:eO)=>x.1.length<=4194304,λ(x:eO)=>(BB (λg=>!g.used) x.1,())⟩
abbrev Ba (l:(List aZ)):LInv:=⟨[⟨.s,3,true,.el .int⟩,⟨.s,4,true,.el .int⟩],λ_ (x:bI)=>0<=x.2.1/\x.2.1<=l.length/\0<=x.1/\x.1<=x.2.1/\x.1+BB (λg=>!g.used) (l.drop x.2.1.toNat)=BB (λg=>!g.used) l,λ(x:bI)=>l.length-x.2.1.toNat⟩
def E28:=E27.a Rh<|Fct.p (KP [0,2,3,4] [8,16]) (λ⟨l,_⟩=>lv [(3,Ba l)]) E27.2 func177 (by
 rintro⟨(l:List aZ),_⟩ hp;exact hg (.lq (Int×Int×PUnit) (Ba l).inv (Ba l).m ((0:Int),((0:Int),())) λy1 bk1=>.br (decide (y1.2.1<(l.length:Int))) (.ob (inB y1.2.1 l.length)<|.br (!(l.getD y1.2.1.toNat default).used) (.re (l)<|.re (Value.int IntKind.i64 (0:Int))<|.bk (bk1 (w1 y1.1,(w1 y1.2.1,())))) (.re (l)<|.re (Value.int IntKind.i64 (0:Int))<|.bk (bk1 (y1.1,(w1 y1.2.1,()))))) (.lf Rh (y1.1,()))) (an_ @BB.eq_1<|an_ @BB.eq_2<|@IB))
abbrev Hb:Fct:=⟨[.v (.el .loader)],[.el .bool],λ(x:ct)=>True,λ(x:ct)=>(x.1.page.loaded&&decide (x.1.parts.length=0),())⟩
def E29:=E28.a Hb<|Fct.o [1,2] E28.2 func53 (by
 rintro⟨(l:O_),_⟩ hp;refine ho (.cl Jh (l.page,()) λz2=>.br (z2.1) (.lf Hb ((l.parts.length:Int)==0,())) (.lf Hb (false,()))) ?_;refine Aj trivial λ_=>(Aa (λh1=>lfY ?_) λh1=>lfY ?_)<;>(try simp only[AA] at *)<;>(try simp only[std,Nat.reduceAdd] at *)<;>(try simp(disch:=omega) only[A_,C_] at *)<;>(try simp(disch:=omega) only[G_,F_])<;>(first|trivial|omega|grind[A_,C_,B_,K_,I_,maxLen]))
abbrev Fc:Fct:=⟨[.v (.sl .attr)],[.sl .attr],λ(x:(List cU)×Unit)=>x.1.length<=1099511627776,λ(x:(List cU)×Unit)=>(x.1,())⟩
def E30:=E29.a Fc<|Fct.o [0,2] E29.2 func138 (by
 rintro⟨(l:List cU),_⟩ hp;exact hq (.ap (0+List.length l) 32<|.lf Fc ([]++l,())))
abbrev Ajw:Fct:=⟨[.v (.el .token)],[.el .token],λ(x:af×Unit)=>x.1.bq.length<=1099511627776,λ(x:af×Unit)=>(x.1,())⟩
abbrev Jp:Fct:=⟨[.v (.sl .token)],[.sl .token],λ(x:(List af)×Unit)=>szL szToken x.1<=1099511627776,λ(x:(List af)×Unit)=>(x.1,())⟩
abbrev B9 (l:(List af)):LInv:=⟨[⟨.s,3,true,.sl .token⟩,⟨.s,4,true,.el .int⟩],λ_ (x:eP)=>0<=x.2.1/\x.2.1<=l.length/\x.1=l.take x.2.1.toNat,λ(x:eP)=>l.length-x.2.1.toNat⟩
def E31:=E30.a Jp<|Fct.p (KP [0,2,3,4,5] [10]) (λ⟨l,_⟩=>lv [(3,B9 l)]) E30.2 func103 (by
 rintro⟨(l:List af),_⟩ hp;refine ho (lpx (B9 l) ([],((0:Int),())) λ(y1:eP) bk1=>let M_:=inB y1.2.1 l.length;let H_:=l.getD y1.2.1.toNat default;.br (decide (y1.2.1<(l.length:Int))) (.ob M_<|.ob M_<|.cl Fc (H_.bq,()) λz2=>let J_:=(⟨H_.kind,H_.name,z2.1,H_.text⟩:af);.ob (IJ (y1.1.length+[J_].length) 64)<|.re (l)<|.bk (bk1 (y1.1++[J_],(w1 y1.2.1,())))) (.lf Jp (y1.1,()))) ?_;refine Aq ?_ λ(y1:eP) i1=>Aa (λh2=>Ac ?_ λ_=>Ac ?_ λ_=>Aj ?_ λ_=>(Ac ?_ λ_=>An<|AR ?_)) (λh2=>lfY ?_)<;>(have hl:=Ad szToken l;try have hg:=MY (l:=l) (i:=y1.2.1.toNat))<;>(try have hg:=MY (l:=l) (i:=y2.2.1.toNat))<;>(try simp only[AA] at *)<;>(try simp only[std,Nat.reduceAdd,P_,cF] at *)<;>(try simp(disch:=omega) only[A_,C_] at *)<;>(try simp(disch:=omega) only[G_,F_])<;>(first|trivial|omega|grind[A_,C_,B_,K_,I_,maxLen,P_,cF]))
theorem cG {b:aj} {n:Nat} (h:b.bj.length<=n):(⟨b.bj.take n,b.bn⟩:aj)=b:=by rw[ci h]
abbrev Dt:Fct:=⟨[.v (.el .ba)],[.el .ba],λ(x:aj×Unit)=>szBuilder x.1<=1099511627776,λ(x:aj×Unit)=>(x.1,())⟩
abbrev Cw (b:aj):LInv:=⟨[⟨.b,3,true,.el .ba⟩,⟨.s,4,true,.el .int⟩,⟨.b,1,false,.el .ba⟩,⟨.b,2,true,.el .ba⟩],λ(z x:eQ)=>((0<=x.2.1/\x.2.1<=b.bj.length/\x.1=⟨b.bj.take x.2.1.toNat,b.bn⟩)/\x.2.2.1=z.2.2.1)/\x.2.2.2.1=z.2.2.2.1,λ(x:eQ)=>b.bj.length-x.2.1.toNat⟩
def E32:=E31.a Dt<|Fct.p (KP [1,2,3,4,5] [15]) (λ⟨b,_⟩=>lv [(3,Cw b)]) E31.2 func104 (by
 rintro⟨(b:aj),_⟩ hp;refine ho (.ap (0+b.bn.length) 8<|lpx (Cw b) ((⟨[],[]++b.bn⟩:aj),((0:Int),(b,(default,())))) λ(y2:eQ) bk2=>let M_:=inB y2.2.1 y2.2.2.1.bj.length;let H_:=y2.2.2.1.bj.getD y2.2.1.toNat default;.br (decide (y2.2.1<(y2.2.2.1.bj.length:Int))) (.ob M_<|.ob M_<|.cl Fc (H_.bq,()) λz2=>let J_:=(⟨H_.name,H_.text,H_.parent,z2.1⟩:cP);.ob (IJ (y2.1.bj.length+[J_].length) 64)<|.bk (bk2 ((⟨y2.1.bj++[J_],y2.1.bn⟩:aj),(w1 y2.2.1,(y2.2.2.1,(y2.2.2.2.1,())))))) (.lf Dt (y2.1,()))) ?_;refine EG ?_ λ_=>Aq ?_ λ(y2:eQ) i2=>Aa (λh3=>Ac ?_ λ_=>Ac ?_ λ_=>Aj ?_ λ_=>Ac ?_ λ_=>AR ?_) (λh3=>lfY ?_)<;>(have hl:=Ad AF b.bj;try have hg:=Pc (l:=b.bj) (i:=y1.2.1.toNat))<;>(try have hg:=Pc (l:=b.bj) (i:=y2.2.1.toNat))<;>(try simp only[AA] at *)<;>(try simp only[std,Nat.reduceAdd,P_,cG,szBuilder] at *)<;>(try simp(disch:=omega) only[A_,C_] at *)<;>(try simp(disch:=omega) only[G_,F_])<;>(first|trivial|omega|grind[A_,C_,B_,K_,I_,maxLen,P_,cG,szBuilder]))
abbrev Jj:Fct:=⟨[.v (.el .bm)],[.el .bm],λ(x:aS)=>AD x.1<=1099511627776,λ(x:aS)=>(x.1,())⟩
def E33:=E32.a Jj<|Fct.o [1,2] E32.2 func102 (by
 rintro⟨(p:aQ),_⟩ hp;exact hg (.ap p.bt.length 16<|.ap p.styles.length 16<|.ap p.images.length 16<|.lf Jj (p,())) (an_ @AD.eq_1<|an_ (Ad Ag p.bt)<|an_ (Ad Ag p.styles)<|(Ad Ag p.images)))
abbrev AW:Fct:=⟨[.v (.el .page)],[.el .page],λ(x:ai)=>Al x.1<=1099511627776,λ(x:ai)=>(x.1,())⟩
def E34:=E33.a AW<|Fct.o [1,2,3] E33.2 func63 (by
 rintro⟨(p:HO),_⟩ hp;exact hg (.cl Jj (p.bm,()) λz2=>.cl Jp (p.bp,()) λz3=>.cl Dt (p.ba,()) λz4=>.ap (0+p.bf.length) 96<|.ap (0+p.bi.length) 64<|.ap (0+p.bh.length) 32<|.ap (0+p.ran.length) 32<|.ap (0+p.log.length) 16<|.lf AW (⟨p.addr,z2.1,p.tok,z3.1,p.ended,z4.1,[]++p.bf,[]++p.bi,[]++p.bh,p.block,p.inline,p.bo,p.bu,[]++p.ran,[]++p.log,p.loaded⟩,())) (an_ @Al.eq_1<|an_ (Ad AO p.bf)<|an_ (Ad Ar p.bi)<|an_ (Ad szAddr p.bh)<|an_ (Ad szAddr p.ran)<|(Ad Ag p.log)))
abbrev A7:Fct:=⟨[.v (.el .addr),.v (.el .addr)],[.el .int],λ(x:FS×FS×Unit)=>True,λ(x:FS×FS×Unit)=>(cmpA x.1 x.2.1,())⟩
def E35:=E34.a A7<|Fct.o (KP [2,3,4] [5,9]) E34.2 func155 (by
 rintro⟨(a:FS),(b:FS),_⟩ hp;refine ho (.br (a.host==b.host&&(a.path==b.path&&true)) (.lf A7 ((0:Int),())) (.br (Op.bytesLess a.host.toList b.host.toList) (.lf A7 ((-1:Int),())) (.br (a.host.toList==b.host.toList) (.br (Op.bytesLess a.path.toList b.path.toList) (.lf A7 ((-1:Int),())) (.lf A7 ((1:Int),()))) (.lf A7 ((1:Int),()))))) ?_;repeat' (guard_target =~ Out.holds _ _;first|refine lfY ?_|refine Aa (λ_=>?_) λ_=>?_)
 all_goals (try simp only[De,Acg,av,cy] at *)<;>(have h1:=Kt a.host b.host;have h2:=Kt a.path b.path;have h3:=Ym a b;have h4:=EJ (a:=a) (b:=b);have h5:=I8 (a:=a.host) (b:=b.host);have h6:=I8 (a:=a.path) (b:=b.path);try simp only[AA] at *)<;>(try simp only[std,Nat.reduceAdd,cmpA] at *)<;>(try simp(disch:=omega) only[A_,C_] at *)<;>(try simp(disch:=omega) only[G_,F_])<;>(first|trivial|omega|grind[A_,C_,B_,K_,I_,maxLen,cmpA]))
def laysCmp_r:Go.Shelf.Ren:=⟨λ|0=>0|1=>1|2=>2|106=>125|109=>78|110=>37|125=>124|128=>164|129=>165|213=>166|265=>204|329=>200|330=>201|347=>224|348=>225|349=>226|350=>227|351=>228|352=>229|353=>230|354=>231|355=>232|356=>233|357=>234|358=>235|359=>236|360=>237|361=>238|366=>239|_=>0,λ|0=>0|1=>1|2=>2|3=>3|4=>4|5=>5|6=>6|7=>7|8=>8|9=>9|10=>10|11=>11|12=>12|13=>13|14=>14|15=>15|16=>16|17=>17|18=>18|19=>19|20=>20|21=>21|22=>216|24=>180|27=>188|28=>33|31=>36|32=>132|33=>96|36=>288|37=>22|43=>149|46=>187|47=>186|51=>226|52=>225|53=>228|54=>227|55=>172|69=>282|80=>296|81=>302|83=>264|101=>64|103=>265|104=>152|114=>175|127=>306|131=>223|164=>311|182=>218|183=>219|218=>266|219=>267|220=>268|222=>270|228=>290|229=>291|238=>297|239=>298|240=>299|241=>300|242=>301|243=>303|244=>304|245=>305|246=>307|247=>308|248=>309|249=>310|_=>0,λ|1=>0|_=>0⟩
def Aax:Go.Proofs.Lays.n106 Tryz.prog laysCmp_r:=by repeat' first|kernel_rfl|constructor|intro _
def E36:=E35.a fCmpStr<|AhN rfl (Any.strings_Compare Aax)
def E37:=E36.a A7<|Fct.o (KP [2,3,4,5] [12]) E36.2 func75 (by
 rintro⟨(a:FS),(b:FS),_⟩ hp;refine ho (.cl fCmpStr (a.host,b.host,()) λ(z2:E_)=>.br (z2.1 != 0) (.lf A7 (z2.1,())) (.cl fCmpStr (a.path,b.path,()) λ(z3:E_)=>.lf A7 (z3.1,()))) ?_;refine Aj trivial λ_=>(Aa (λh1=>lfY ?_) λh1=>Aj trivial λ_=>lfY ?_)<;>(try simp only[AA] at *)<;>(try simp only[fCmpStr,std,Nat.reduceAdd,cmpA] at *)<;>(try simp(disch:=omega) only[A_,C_] at *)<;>(try simp(disch:=omega) only[G_,F_])<;>(first|trivial|omega|grind[A_,C_,B_,K_,I_,maxLen,cmpA,fCmpStr]))
def AiW (x y:FS) (W:World):Calls Tryz.prog 75 #[.agg (N2 x).toArray,.agg (N2 y).toArray] W λe w'=>e=.returned (.int .i64 (cmpA x y))/\∃ q os,w'=Go.Sort.grow (W.drewN q) os:=by
 have hc:=λa b W=>Any.strings_Compare Aax a b W
 change ∀ a b W,Calls Tryz.prog 125 _ _ _ at hc
 change Calls _ _ #[.agg #[.string x.host,.string x.path],.agg #[.string y.host,.string y.path]] _ _
 go_enter func75,Tryz.ntmps75
 go_wp2_with (go_at_call 125;refine(hc _ _ _).mono ?_;rintro e w' ⟨rfl,rfl⟩)
 all_goals
  go_ret
  refine⟨?_,0,_,by rw[Go.Sort.alloc_eq_grow,Go.Sort.alloc_eq_grow,Go.Sort.grow_grow];rfl⟩;simp_all [cmpA,Tz]
abbrev AbD:GS:=⟨[.k (.sl .addr),.l (.c 75 [])],[],λ(x:(List FS)×(Unit)×Unit)=>x.1.length<4611686018427387904,λ(x:(List FS)×(Unit)×Unit)=>((()),(S3 x.1,()))⟩
def laysSortA_r:Go.Shelf.Ren:=⟨λ|0=>0|1=>1|2=>2|6=>74|14=>123|15=>124|20=>156|21=>157|22=>158|23=>159|24=>160|25=>161|26=>162|27=>163|28=>164|29=>165|46=>199|47=>200|48=>201|49=>202|50=>203|57=>220|60=>224|61=>225|62=>226|63=>227|64=>228|65=>229|66=>230|67=>231|68=>232|69=>233|70=>234|71=>235|72=>236|73=>237|74=>238|75=>239|_=>0,λ|0=>0|1=>1|2=>2|3=>3|4=>4|5=>5|6=>6|7=>7|8=>8|9=>9|10=>10|11=>11|12=>12|13=>13|14=>14|15=>15|16=>16|17=>17|18=>18|19=>19|20=>20|21=>21|22=>47|23=>129|24=>32|25=>130|27=>33|29=>149|37=>185|38=>186|39=>187|40=>113|44=>217|45=>218|46=>219|47=>220|48=>221|49=>222|50=>223|51=>224|52=>225|53=>226|54=>227|55=>228|66=>266|67=>267|68=>268|69=>269|70=>270|71=>271|76=>290|77=>291|78=>292|81=>296|82=>297|83=>298|84=>299|85=>300|86=>301|87=>302|88=>303|89=>304|90=>305|91=>306|92=>307|93=>308|94=>309|95=>310|96=>311|_=>0,λ_=>0⟩
def Abx:Go.Proofs.SlLaysF0.n6 Tryz.prog laysSortA_r:=⟨k_,⟨"slices.SortFunc[[]loop.example/g00586/impl.Addr,loop.example/g00586/impl.Addr]",by decide,k_⟩,⟨"slices.pdqsortCmpFunc[loop.example/g00586/impl.Addr]",by decide,k_⟩,k_,⟨"slices.insertionSortCmpFunc[loop.example/g00586/impl.Addr]",by decide,k_⟩,⟨"slices.heapSortCmpFunc[loop.example/g00586/impl.Addr]",by decide,k_⟩,⟨"slices.breakPatternsCmpFunc[loop.example/g00586/impl.Addr]",by decide,k_⟩,⟨"slices.choosePivotCmpFunc[loop.example/g00586/impl.Addr]",by decide,k_⟩,⟨"slices.reverseRangeCmpFunc[loop.example/g00586/impl.Addr]",by decide,k_⟩,⟨"slices.partialInsertionSortCmpFunc[loop.example/g00586/impl.Addr]",by decide,k_⟩,⟨"slices.partitionEqualCmpFunc[loop.example/g00586/impl.Addr]",by decide,k_⟩,⟨"slices.partitionCmpFunc[loop.example/g00586/impl.Addr]",by decide,k_⟩,k_,k_,⟨"slices.siftDownCmpFunc[loop.example/g00586/impl.Addr]",by decide,k_⟩,k_,k_,⟨"slices.medianAdjacentCmpFunc[loop.example/g00586/impl.Addr]",by decide,k_⟩,⟨"slices.medianCmpFunc[loop.example/g00586/impl.Addr]",by decide,k_⟩,⟨"slices.order2CmpFunc[loop.example/g00586/impl.Addr]",by decide,k_⟩,k_,(λ_=>k_),(λ_=>k_),(λ_=>k_),k_,(λ_=>k_),(λ_=>k_),(λ_=>k_),k_,(λ_=>k_),(λ_=>k_),(λ_=>k_),k_,(λ_=>k_),(λ_=>k_),(λ_=>k_),k_,(λ_=>k_),(λ_=>k_),(λ_=>k_),k_,(λ_=>k_),(λ_=>k_),(λ_=>k_),k_,(λ_=>k_),(λ_=>k_),(λ_=>k_),k_,(λ_=>k_),(λ_=>k_),(λ_=>k_),k_,(λ_=>k_),(λ_=>k_),(λ_=>k_),k_,(λ_=>k_),(λ_=>k_),(λ_=>k_),k_,(λ_=>k_),(λ_=>k_),(λ_=>k_),k_,(λ_=>k_),(λ_=>k_),(λ_=>k_),k_,(λ_=>k_),(λ_=>k_),(λ_=>k_),k_,(λ_=>k_),(λ_=>k_),(λ_=>k_),k_,(λ_=>k_),(λ_=>k_),(λ_=>k_),k_,(λ_=>k_),(λ_=>k_),(λ_=>k_),k_,(λ_=>k_),(λ_=>k_),(λ_=>k_)⟩
def E38:=E37.G AbD<|AfR (cf:=cmpA) Abx rfl (λ_=>k_) (λ_=>k_) Am4 Aoi (enters_of func75 k_ rfl) AiW
abbrev Fo:GS:=⟨[.g (.sl .addr)],[.sl .addr],λ(x:eR)=>x.1.length<=1000000000000,λ(x:eR)=>((A6 x.1,()),(()))⟩
abbrev AK (s:(List FS)):LInv:=⟨[⟨.s,3,true,.el .int⟩,⟨.t,0,true,.sl .addr⟩],λ_ (x:eS)=>1<=x.1/\x.1<=s.length/\x.2.1=s/\A6 (s.take x.1.toNat)=s.take x.1.toNat,λ(x:eS)=>s.length-x.1.toNat⟩
abbrev AJ (s:(List FS)):LInv:=⟨[⟨.s,3,true,.el .int⟩,⟨.s,5,true,.el .int⟩,⟨.t,0,true,.sl .addr⟩],λ(z x:eT)=>CompInv s x.2.2.1 z.1 x.1 x.2.1,λ(x:eT)=>s.length-x.2.1.toNat⟩
def E39:=E38.G Fo<|GS.of (S:=Fo) (L:=λ⟨s,_⟩=>λ|4=>some (AK s)|9=>some (AJ s)|_=>none) (kp:=(KP [0,2,3,4,5] [8,13,25,32,44])) E38.2 func76 k_ k_ (by
 rintro⟨(s:List FS),_⟩ hp;refine ho (.br (decide ((s.length:Int)<2)) (GS.out Fo ((s,()),(()))) (lpx (AK s) ((1:Int),(s,())) λ(y2:eS) bk2=>let dp:=y2.1.toNat=y2.1.toNat;let aW:=y2.2.1.getD y2.1.toNat default;let bK:=(y2.2.1.length:Int);let Z_:=y2.2.1.length-y2.1.toNat=y2.2.1.length-y2.1.toNat;let R_:=y2.1-(1:Int);let cg:=y2.2.1.getD (wr R_).toNat default;let J_:=(↑(y2.2.1.length-y2.1.toNat):Int);.br (decide (y2.1<bK)) (.ob (inB y2.1 y2.2.1.length)<|.ob (y2.1.toNat<y2.2.1.length)<|.ob (0<=wr R_/\wr R_<bK)<|.ob ((wr R_).toNat<y2.2.1.length)<|.br (aW.host==cg.host&&(aW.path==cg.path&&true)) (.ob (0<=y2.1/\y2.1<=bK)<|lpx (AJ s) (y2.1,((1:Int),(y2.2.1,()))) λ(y10:eT) bk10=>let bH:=y10.2.2.1.length-y10.1.toNat;let aJ:=0<=y10.2.1/\y10.2.1<J_;let aK:=y2.1.toNat+y10.2.1.toNat<y10.2.2.1.length;let ax:=y2.1.toNat+y10.2.1.toNat;let bS:=y10.2.2.1.getD ax default;let M_:=y10.2.1-(1:Int);let ar:=y10.2.2.1.getD (y2.1.toNat+(wr M_).toNat) default;let H_:=LR y10.2.2.1 y10.1.toNat (List.replicate bH default);.br (decide (y10.2.1<J_)) (.ob aJ<|.ob aK<|.ob (0<=wr M_/\wr M_<J_)<|.ob (y2.1.toNat+(wr M_).toNat<y10.2.2.1.length)<|.br (!(bS.host==ar.host&&(bS.path==ar.path&&true))) (.ob aJ<|.ob aK<|.ob (inB y10.1 y10.2.2.1.length)<|.ob (y10.1.toNat<y10.2.2.1.length)<|.lt (List FS) (y10.2.2.1.modify y10.1.toNat λz=>y10.2.2.1.getD ax default) λz2=>.ob dp<|.ob Z_<|.ob (bk10 (w1 y10.1,(w1 y10.2.1,(z2,()))))<|.ok) (.ob dp<|.ob Z_<|.ob (bk10 (y10.1,(w1 y10.2.1,(y10.2.2.1,()))))<|.ok)) (.ob (0<=y10.1/\y10.1<=(y10.2.2.1.length:Int))<|.ob (y10.1.toNat+bH<=y10.2.2.1.length)<|.ob (0<=y10.1/\y10.1<=(H_.length:Int))<|.ob (0+(y10.1.toNat-0)<=H_.length)<|GS.out Fo ((cut H_ 0 (y10.1.toNat-0),()),(())))) (.ob (bk2 (w1 y2.1,(y2.2.1,())))<|.ok)) (GS.out Fo ((y2.2.1,()),(()))))) ?_;refine Aa (λh1=>GS.leafY ?_) λh1=>Aq ?_ λ(y2:eS) i2=>Aa (λh3=>Ac ?_ λ_=>Ac ?_ λ_=>Ac ?_ λ_=>Ac ?_ λ_=>Aa (λh8=>Ac ?_ λ_=>Aq ?_ λ(y10:eT) i10=>Aa (λh11=>Ac ?_ λ_=>Ac ?_ λ_=>Ac ?_ λ_=>Ac ?_ λ_=>Aa (λh16=>Ac ?_ λ_=>Ac ?_ λ_=>Ac ?_ λ_=>Ac ?_ λ_=>K6 (Ac rfl λ_=>Ac rfl λ_=>Ac ?_ λ_=>trivial)) λh16=>Ac rfl λ_=>Ac rfl λ_=>Ac ?_ λ_=>trivial) λh11=>Ac ?_ λ_=>Ac ?_ λ_=>Ac ?_ λ_=>Ac ?_ λ_=>GS.leafY ?_) λh8=>Ac ?_ λ_=>trivial) λh3=>GS.leafY ?_;all_goals
  try simp only[De] at *
  try have cI:=i10
 all_goals (try obtain⟨c1,c2,c3,c4,c5,c6,c7,c8⟩:=cI;clear c7 c8)<;>(try obtain⟨d1,d2,d3,d4⟩:=i2;simp only[d3] at *)<;>(try simp only[AA] at *)<;>(try simp only[std,Nat.reduceAdd] at *)<;>(try simp(disch:=omega) only[A_] at *)<;>(try simp only[W0 (e:=y10.1.toNat) (xs:=y10.2.2.1) (ys:=List.replicate (y10.2.2.1.length-y10.1.toNat) default) (by simp;omega)] at *)<;>(first|trivial|omega|skip)
 ·exact(OT _ o_).symm
 ·exact⟨o_,o_,OT _ (by simp;omega)⟩
 ·exact Yh d1 o_ d4 h8
 ·exact⟨Ad1 i10 o_ h16,o_⟩
 ·exact⟨Adh i10 o_ h16,o_⟩
 ·exact AfI i10 o_ _
 ·exact⟨⟨o_,o_,AcH d1 o_ d4 h8⟩,o_⟩
 ·rw[ci o_] at d4;exact d4.symm)
abbrev Kk:Fct:=⟨[.v (.sl .addr)],[.sl .addr],λ(x:eR)=>x.1.length<=1000000000000,λ(x:eR)=>(sortAddrs x.1,())⟩
def E40:=E39.a Kk<|Fct.o [0,2,3] E39.2 func35 (by
 rintro⟨(l:List FS),_⟩ hp;refine ho (.ap (0+List.length l) 32<|.ob (AbD.pre ([]++l,(),()))<|.lt _ (AbD.fn ([]++l,(),())) λz2=>.ob (Fo.pre (z2.2.1,()))<|.lt _ (Fo.fn (z2.2.1,())) λz3=>.lf Kk (z3.1.1,())) ?_;refine EG ?_ λ_=>Ac ?_ λ_=>K6 (Ac ?_ λ_=>K6 (lfY ?_))<;>(have hl1:(S3 l).length=l.length:=(List.mergeSort_perm _ _).length_eq;try simp only[AA] at *)<;>(try simp only[std,Nat.reduceAdd,sortAddrs] at *)<;>(try simp(disch:=omega) only[A_,C_] at *)<;>(try simp(disch:=omega) only[G_,F_])<;>(first|trivial|omega|grind[A_,C_,B_,K_,I_,maxLen,sortAddrs]))
def tosAt (h:ByteArray):List bE->List FS
 | []=>[]
 | s::l=>if s.to.host=h then s.to::tosAt h l else tosAt h l
theorem ej {l:List bE} {i:Nat} (h:ByteArray) (hi:i<l.length):tosAt h (l.drop i)=if(l.getD i default).to.host=h then(l.getD i default).to::tosAt h (l.drop (i+1)) else tosAt h (l.drop (i+1)):=by rw[B_ hi];rfl
theorem dz {l:List bE} {i:Nat} (h:ByteArray) (hi:l.length<=i):tosAt h (l.drop i)=[]:=by rw[bQ hi];rfl
def AbT (h:ByteArray) (l:List bE):(tosAt h l).length<=l.length:=by
 induction l with
 | nil=>simp[tosAt]
 | cons s l ih=>simp only[tosAt];split<;>simp only[aq]<;>omega
def learnedBy (b a:N_) (h:ByteArray):List FS:=sortAddrs (tosAt h (a.log.drop b.log.length))
def DD (b a:N_) (h:ByteArray):(learnedBy b a h).length<=a.log.length:=by
 have h1:=PX (tosAt h (a.log.drop b.log.length));have h2:=AbT h (a.log.drop b.log.length);simp only[fP] at h2;unfold learnedBy;omega
abbrev Ei:Fct:=⟨[.v (.el .net),.v (.el .net),.v (.el .str)],[.sl .addr],λ(x:gh)=>x.2.1.log.length<=1048576/\x.1.log.length<=1048576,λ(x:gh)=>(learnedBy x.1 x.2.1 x.2.2.1,())⟩
abbrev Cr (b:N_) (a:N_) (h:ByteArray):LInv:=⟨[⟨.s,7,true,.sl .addr⟩,⟨.s,14,true,.el .int⟩,⟨.b,3,false,.el .net⟩],λ(z x:eU)=>(0<=x.2.1/\x.2.1<=a.log.length/\x.1.length<=x.2.1/\(x.2.1<=b.log.length/\x.1=[]\/b.log.length<=x.2.1/\sortAddrs (x.1++tosAt h (a.log.drop x.2.1.toNat))=learnedBy b a h))/\x.2.2.1=z.2.2.1,λ(x:eU)=>a.log.length-x.2.1.toNat⟩
def E41:=E40.a Ei<|Fct.p (KP [2,3,4,6,7,8,9,12,13,14] [15,30]) (λ⟨b,a,h,_⟩=>lv [(3,Cr b a h)]) E40.2 func11 (by
 rintro⟨(b:N_),(a:N_),(h:ByteArray),_⟩ hp;refine ho (let R_:=(a.log.length:Int);let M_:=Value.int IntKind.i64 R_;lpx (Cr b a h) ([],((0:Int),(b,()))) λ(y1:eU) bk1=>let J_:=a.log.getD y1.2.1.toNat default;let H_:Out:=.re (Value.string h)<|.re (a.log)<|.re M_<|.bk (bk1 (y1.1,(w1 y1.2.1,(y1.2.2.1,()))));.br (decide (y1.2.1<R_)) (.ob (inB y1.2.1 a.log.length)<|.br (decide (y1.2.1>=(y1.2.2.1.log.length:Int))) (.br (J_.to.host.toList==h.toList) (.ap (y1.1.length+[J_.to].length) 32<|.re (Value.string h)<|.re (a.log)<|.re M_<|.bk (bk1 (y1.1++[J_.to],(w1 y1.2.1,(y1.2.2.1,()))))) H_) H_) (.cl Kk (y1.1,()) λz2=>.lf Ei (z2.1,()))) ?_;refine Aq ?_ λ(y1:eU) i1=>Aa (λh2=>Ac ?_ λ_=>Aa (λh4=>Aa (λh5=>EG ?_ λ_=>An<|An<|An<|AR ?_) λh5=>An<|An<|An<|AR ?_) λh4=>An<|An<|An<|AR ?_) (λh2=>Aj ?_ λ_=>lfY ?_)<;>(try simp only[AA] at *)<;>(try simp only[std,Nat.reduceAdd,learnedBy,ej,dz] at *)<;>(try simp(disch:=omega) only[A_,C_] at *)<;>(try simp(disch:=omega) only[G_,F_])<;>(first|trivial|omega|grind[A_,C_,I_,maxLen,learnedBy,ej,dz]))
def learnedMore (b x y:N_) (h:ByteArray):List FS:=(learnedBy b y h).filter λa=>!((learnedBy b x h).any λc=>decide (c=a))
abbrev FX:Fct:=⟨[.v (.el .net),.v (.el .net),.v (.el .net),.v (.el .str)],[.sl .addr],λ(x:eV)=>x.2.1.log.length<=1048576/\x.2.2.1.log.length<=1048576/\x.1.log.length<=1048576,λ(x:eV)=>(learnedMore x.1 x.2.1 x.2.2.1 x.2.2.2.1,())⟩
abbrev BF (b:N_) (x:N_) (y:N_) (h:ByteArray):LInv:=⟨[⟨.s,10,true,.sl .addr⟩,⟨.s,23,true,.el .int⟩,⟨.s,9,true,.sl .addr⟩,⟨.s,21,true,.sl .addr⟩],λ(z x_:eW)=>((0<=x_.2.1/\x_.2.1<=(learnedBy b y h).length/\x_.1.length<=x_.2.1/\x_.1++((learnedBy b y h).drop x_.2.1.toNat).filter (λa=>!((learnedBy b x h).any λc=>decide (c=a)))=learnedMore b x y h)/\x_.2.2.1=z.2.2.1)/\x_.2.2.2.1=z.2.2.2.1,λ(x_:eW)=>(learnedBy b y h).length-x_.2.1.toNat⟩
def E42:=E41.a FX<|Fct.p (KP [3,4,5,6,8,9,10,12,21,22,23] [24,30]) (λ⟨b,x,y,h,_⟩=>lv [(4,BF b x y h)]) E41.2 func10 (by
 rintro⟨(b:N_),(x:N_),(y:N_),(h:ByteArray),_⟩ hp;refine ho (.cl Ei (b,x,h,()) λz2=>.cl Ei (b,y,h,()) λz3=>lpx (BF b x y h) ([],((0:Int),(z2.1,(z3.1,())))) λ(y3:eW) bk3=>.br (decide (y3.2.1<(z3.1.length:Int))) (.ix y3.2.1 y3.2.2.2.1.length<|.cl DC (y3.2.2.1,y3.2.2.2.1.getD y3.2.1.toNat default,()) λz4=>.br (!z4.1) (.ap (y3.1.length+[y3.2.2.2.1.getD y3.2.1.toNat default].length) 32<|.re (Value.string h)<|.re (Value.int IntKind.i64 (z3.1.length:Int))<|.bk (bk3 (y3.1++[y3.2.2.2.1.getD y3.2.1.toNat default],(w1 y3.2.1,(y3.2.2.1,(y3.2.2.2.1,())))))) (.re (Value.string h)<|.re (Value.int IntKind.i64 (z3.1.length:Int))<|.bk (bk3 (y3.1,(w1 y3.2.1,(y3.2.2.1,(y3.2.2.2.1,()))))))) (.lf FX (y3.1,()))) ?_;refine Aj ?_ λ_=>(Aj ?_ λ_=>Aq ?_ λ(y3:eW) i3=>Aa (λh4=>CW ?_ λo5 o6=>Aj ?_ λ_=>Aa (λh8=>EG ?_ λ_=>An<|An<|AR ?_) λh8=>An<|An<|AR ?_) λh4=>lfY ?_)<;>(have hn2:=DD b x h;have hn3:=DD b y h;try simp only[AA] at *)<;>(try simp only[std,Nat.reduceAdd,learnedMore] at *)<;>(try simp(disch:=omega) only[A_,C_] at *)<;>(try simp(disch:=omega) only[G_,F_])<;>(first|trivial|omega|grind[A_,C_,B_,K_,I_,maxLen,learnedMore]))
abbrev LA:Fct:=⟨[.v (.el .page),.v (.el .addr)],[.el .int],λ(x:bv)=>x.1.bi.length<=1000000000000,λ(x:bv)=>(AQ (λm=>decide (m.to=x.2.1)) x.1.bi 0,())⟩
abbrev Cb (p:HO) (a:FS):LInv:=⟨[⟨.s,5,true,.el .int⟩,⟨.b,2,false,.el .page⟩,⟨.b,3,true,.el .addr⟩],λ(z x:eX)=>((0<=x.1/\x.1<=p.bi.length/\AQ (λm=>decide (m.to=a)) (p.bi.drop x.1.toNat) x.1=AQ (λm=>decide (m.to=a)) p.bi 0)/\x.2.1=z.2.1)/\x.2.2.1=z.2.2.1,λ(x:eX)=>p.bi.length-x.1.toNat⟩
def E43:=E42.a LA<|Fct.p (KP [2,3,4,5] [10,20]) (λ⟨p,a,_⟩=>lv [(2,Cb p a)]) E42.2 func117 (by
 rintro⟨(p:HO),(a:FS),_⟩ hp;exact hg (.lq (Int×HO×FS×PUnit) (Cb p a).inv (Cb p a).m ((0:Int),(p,(a,()))) λy1 bk1=>.br (decide (y1.1<(y1.2.1.bi.length:Int))) (.ob (inB y1.1 y1.2.1.bi.length)<|.br ((y1.2.1.bi.getD y1.1.toNat default).to.host==y1.2.2.1.host&&((y1.2.1.bi.getD y1.1.toNat default).to.path==y1.2.2.1.path&&true)) (.lf LA (y1.1,())) (.bk (bk1 (w1 y1.1,(y1.2.1,(y1.2.2.1,())))))) (.lf LA ((-1:Int),()))) (an_ @AQ.eq_1<|@AQ.eq_2))
def isAsked (p:HO) (a:FS):Bool:=p.bf.any (λs=>decide (s.to=a))||p.bi.any (λm=>decide (m.to=a))
abbrev LO:Fct:=⟨[.v (.el .page),.v (.el .addr)],[.el .bool],λ(x:bv)=>x.1.bi.length<=1000000000000/\x.1.bf.length<=1000000000000,λ(x:bv)=>(isAsked x.1 x.2.1,())⟩
abbrev BM (p:HO) (a:FS):LInv:=⟨[⟨.s,5,true,.el .int⟩,⟨.b,2,false,.el .page⟩,⟨.b,3,true,.el .addr⟩],λ(z x:eX)=>((0<=x.1/\x.1<=p.bf.length/\(p.bf.drop x.1.toNat).any (λs=>decide (s.to=a))=p.bf.any λs=>decide (s.to=a))/\x.2.1=z.2.1)/\x.2.2.1=z.2.2.1,λ(x:eX)=>p.bf.length-x.1.toNat⟩
def E44:=E43.a LO<|Fct.p (KP [2,3,4,5] [10,20]) (λ⟨p,a,_⟩=>lv [(2,BM p a)]) E43.2 func210 (by
 rintro⟨(p:HO),(a:FS),_⟩ hp;exact hg (.lq (Int×HO×FS×PUnit) (BM p a).inv (BM p a).m ((0:Int),(p,(a,()))) λy1 bk1=>.br (decide (y1.1<(y1.2.1.bf.length:Int))) (.ob (inB y1.1 y1.2.1.bf.length)<|.br ((y1.2.1.bf.getD y1.1.toNat default).to.host==y1.2.2.1.host&&((y1.2.1.bf.getD y1.1.toNat default).to.path==y1.2.2.1.path&&true)) (.lf LO (true,())) (.bk (bk1 (w1 y1.1,(y1.2.1,(y1.2.2.1,())))))) (.cl LA (y1.2.1,y1.2.2.1,()) λ(z2:E_)=>.lf LO (decide (z2.1>=0),()))) (an_ @isAsked.eq_1<|(Gb (λm:X_=>decide (m.to=a)) p.bi 0 o_)))
def Li {l:List V_} {i:Nat} (h:i<l.length):(l.getD i default).files.length+l.length<=szL Af l:=by
 have:=Ct Af h;have h2:=Ad Gq (l.getD i default).files;simp only[Af] at this;omega
abbrev AjV:Fct:=⟨[aI,aI],[rI],λ_=>True,λ(x:bI)=>(min x.1 x.2.1,())⟩
def E45:=E44.a AjV<|Fct.o (KP [0,1,4] [7]) E44.2 func93 (by
 rintro⟨(a:Int),(b:Int),_⟩ hp;refine ho (.br (decide (b<a)) (.lf AjV (b,())) (.lf AjV (a,()))) ?_;refine Aa (λh1=>lfY ?_) λh1=>lfY ?_;all_goals
  try simp only[AA] at *
  try simp only[std,Nat.reduceAdd] at *
 all_goals first|trivial|omega|(simp_all;done)|(simp_all;omega)|grind)
def Vg {α:Type} (f:α->Nat) (l m:List α):szL f (l++m)=szL f l+szL f m:=by simp[szL];omega
def PM {α:Type} (f:α->Nat) (l:List α) (n:Nat):szL f (l.drop n)<=szL f l:=by
 have h:=Vg f (l.take n) (l.drop n);simp_all
def YZ {l:List ao} {i:Int} (h0:0<=i) (hj:i<l.length) {k m n j':Nat} (hjj:j'=i.toNat+1) (hm:m=l.length-j') (hk:k=i.toNat+m) (hn:n=i.toNat):cut (LR l n (cut l j' m)) 0 k=l.take i.toNat++l.drop (i.toNat+1):=by
 subst hk;subst hn;rw[show cut (LR l i.toNat (cut l j' m)) 0 (i.toNat+m)=(LR l i.toNat (cut l j' m)).take (i.toNat+m) from rfl,AhI o_ o_ hm,hjj]
def closeConn (l:List ao) (i:Int):List ao:=if 0<=i/\i<l.length then l.take i.toNat++l.drop (i.toNat+1) else l
abbrev If:Fct:=⟨[.v (.sl .conn),.v (.el .int)],[.sl .conn],λ(x:fS)=>x.1.length<=1048576,λ(x:fS)=>(closeConn x.1 x.2.1,())⟩
def E46:=E45.a If<|Fct.o (KP [0,1,4,5] [14]) E45.2 func211 (by
 rintro⟨(l:List ao),(i:Int),_⟩ hp;refine ho (let M_:=(↑([]++l).length:Int);let H_:=([]++l).length-(w1 i).toNat;let R_:=Int.toNat i-0+H_;let J_:=LR ([]++l) (Int.toNat i-0) (cut ([]++l) (w1 i).toNat H_);.ap (0+List.length l) 112<|.cl AC (i,(0:Int),wr ((↑(List.length l):Int)-(1:Int)),()) λz2=>.br (!z2.1) (.lf If ([]++l,())) (.ob (0<=i/\i<=M_)<|.ob (0<=w1 i/\w1 i<=M_)<|.ob (0=0/\0<([]++l).length/\(w1 i).toNat+H_<=([]++l).length/\Int.toNat i-0+H_<=([]++l).length)<|.ob (0+R_<=J_.length)<|.lf If (cut J_ 0 R_,()))) ?_;refine EG ?_ λ_=>Aj trivial λ_=>(Aa (λh2=>lfY ?_) λh2=>Ac ?_ λ_=>Ac ?_ λ_=>Ac ?_ λ_=>Ac ?_ λ_=>lfY ?_)<;>(try simp only[AA] at *)<;>(try simp only[std,Nat.reduceAdd,closeConn,inRange] at *)<;>(try simp(disch:=omega) only[A_,C_] at *)<;>(try simp(disch:=omega) only[G_,F_])<;>(try simp only[Td,Ye,List.length_replicate,S_,fX,av,cy] at *)<;>(first|omega|(rw[F_ o_];done)|exact YZ o_ o_ o_ o_ o_ o_))
def hasI (l:List Int) (i:Int):Bool:=l.any λc=>decide (c=i)
def isCut (cs:List Int) (i:Int):Bool:=hasI (cs.take 7) i
def pieces (s:ByteArray):List Int->Int->List ByteArray
 | [],a=>[s.extract a.toNat s.size]
 | n::l,a=>s.extract a.toNat n.toNat::pieces s l n
def cutGo (s:ByteArray) (cs:List Int):Nat->Int->Int->List ByteArray
 | 0,_,a=>[s.extract a.toNat s.size]
 | f+1,i,a=>if isCut cs i then s.extract a.toNat i.toNat::cutGo s cs f (i+1) i else cutGo s cs f (i+1) a
def cutText (s:ByteArray) (cs:List Int):List ByteArray:=cutGo s cs (s.size-1) 1 0
def rngs (n:Int):List Int->List Int
 | []=>[]
 | x::l=>if inRange x 1 n then x::rngs n l else rngs n l
def Tx (n:Int):∀ l,rngs n l=l.filter λx=>inRange x 1 n
 | []=>rfl
 | x::l=>by rw[rngs,Tx n l,List.filter_cons]
def cutAts (s:ByteArray) (cs:List Int):List Int:=rngs (s.size-1) (cs.take 7)
def SP (s:ByteArray) (cs:List Int):∀ (f:Nat) (i a:Int) (l:List Int),l.Pairwise (· < ·)->(∀ x,x∈l↔(i<=x/\x<i+f/\isCut cs x=true))->cutGo s cs f i a=pieces s l a:=by
 intro f
 induction f with
 | zero=>
  intro i a l _ hm;cases l with
  | nil=>rfl
  | cons x l=>have:=(hm x).1 cW;omega
 | succ f ih=>
  intro i a l hp hm;simp only[cutGo];split
  ·rename_i hc;have hi:i∈l:=(hm i).2 ⟨o_,o_,hc⟩;cases l with
   | nil=>cases hi
   | cons x l=>
    have hp':=List.pairwise_cons.1 hp;have hx:x=i:=by
     rcases ah.1 hi with e|h
     ·exact e.symm
     ·have h1:=hp'.1 i h;have h2:=((hm x).1 cW).1;omega
    subst hx;rw[pieces,ih (x+1) x l hp'.2 λy=>?_];constructor
    ·intro hy;obtain⟨h1,h2,h3⟩:=(hm y).1 (cT _ hy);have:=hp'.1 y hy;exact⟨o_,o_,h3⟩
    ·rintro⟨h1,h2,h3⟩;rcases ah.1 ((hm y).2 ⟨o_,o_,h3⟩) with e|h
     ·omega
     ·exact h
  ·rename_i hc;refine ih (i+1) a l hp λy=>?_
   rw[hm y];constructor
   ·rintro⟨h1,h2,h3⟩;have:y≠i:=λe=>hc (e▸h3)
    exact⟨o_,o_,h3⟩
   ·rintro⟨h1,h2,h3⟩;exact⟨o_,o_,h3⟩
def N3 (s:ByteArray) (cs:List Int):cutText s cs=pieces s (A6 (Yz (cutAts s cs))) 0:=by
 refine SP s cs _ _ _ _ (Aek (le:=λa b=>a<=b) (λa b h1 h2=>o_) (λa b c h1 h2=>o_) (SK _)) λx=>?_
 rw[H8,AaC,cutAts,Tx,List.mem_filter,isCut,hasI,bw];simp only[inRange,S_,av];constructor
 ·rintro⟨h1,h2,h3⟩;exact⟨o_,o_,x,h1,rfl⟩
 ·rintro⟨h1,h2,c,h3,rfl⟩;exact⟨h3,o_,o_⟩
abbrev PS:Fct:=⟨[.v (.el .str),.v (.sl .int)],[.sl .str],λ(x:gj)=>x.1.size<=1048576/\x.2.1.length<=1048576,λ(x:gj)=>(cutText x.1 x.2.1,())⟩
def Xf (s:ByteArray) (cs:List Int):(cutAts s cs).length<=7:=by
 have h1:=List.length_filter_le (λn=>inRange n 1 (s.size-1)) (cs.take 7);rw[<-Tx] at h1;have h2:(cs.take 7).length<=7:=by rw[cX];omega
 unfold cutAts;omega
def cutPos (s:ByteArray) (cs:List Int):List Int:=A6 (Yz (cutAts s cs))
def W6 (s:ByteArray) (cs:List Int):(cutPos s cs).length<=7:=by
 have h1:=Oj (Yz (cutAts s cs));have h2:=Zg (cutAts s cs);have h3:=Xf s cs;unfold cutPos;omega
def Afy {l:List Int} {k:Nat} {i:Int} (h:k<l.length):hasI (l.take (k+1)) i=(hasI (l.take k) i||decide (l.getD k default=i)):=by
 rw[P_ h];simp[hasI]
def XO {s:ByteArray} {cs:List Int} {f:Nat} {i a:Int} (h:0<f):cutGo s cs f i a=if isCut cs i then s.extract a.toNat i.toNat::cutGo s cs (f-1) (i+1) i else cutGo s cs (f-1) (i+1) a:=by
 obtain⟨n,rfl⟩:∃ n,f=n+1:=⟨f-1,o_⟩;rfl
def Ab6 (cs:List Int) (i:Int):hasI (cs.take (min cs.length 7)) i=isCut cs i:=by
 unfold isCut;congr 1;rcases Nat.le_total cs.length 7 with h|h
 ·rw[Nat.min_eq_left h,List.take_length,ci h]
 ·rw[Nat.min_eq_right h]
def ZA (l:List Int) (i:Int):hasI (l.take 0) i=false:=by simp[hasI]
def AeX {cs:List Int} {i k:Int} (h1:min (cs.length:Int) 7<=k) (h2:k<=cs.length) (h3:k<=7):hasI (cs.take k.toNat) i=isCut cs i:=by
 rw[<-Ab6];congr 2;omega
def Aaw {s:ByteArray} {cs:List Int} {f:Nat} {i a:Int} (h:f=0):cutGo s cs f i a=[s.extract a.toNat s.size]:=by subst h;rfl
abbrev C2 (s:ByteArray) (cs:(List Int)):LInv:=⟨[⟨.s,5,true,.sl .str⟩,⟨.s,6,true,.el .int⟩,⟨.s,8,true,.el .int⟩],λ_ (x:dv)=>1<=x.2.2.1/\(x.2.2.1<=s.size\/x.2.2.1=1)/\0<=x.2.1/\x.2.1<x.2.2.1/\x.2.1<=s.size/\x.1.length<=x.2.2.1/\x.1++cutGo s cs (s.size-x.2.2.1.toNat) x.2.2.1 x.2.1=cutText s cs,λ(x:dv)=>s.size-x.2.2.1.toNat⟩
abbrev C1 (s:ByteArray) (cs:(List Int)):LInv:=⟨[⟨.s,9,true,.el .bool⟩,⟨.s,10,true,.el .int⟩,⟨.s,5,true,.sl .str⟩,⟨.s,6,true,.el .int⟩,⟨.s,8,true,.el .int⟩],λ(z x:gk)=>x.2.2.1=z.2.2.1/\x.2.2.2.1=z.2.2.2.1/\x.2.2.2.2.1=z.2.2.2.2.1/\0<=x.2.1/\x.2.1<=cs.length/\x.2.1<=7/\x.1=hasI (cs.take x.2.1.toNat) x.2.2.2.2.1,λ(x:gk)=>7-x.2.1.toNat⟩
def E47:=E46.a PS<|Fct.p (KP [0,1,4,5,6,7,8,9,10] [18,23,35]) (λ⟨s,cs,_⟩=>λ|5=>some (C2 s cs)|9=>some (C1 s cs)|_=>none) E46.2 func50 (by
 rintro⟨(s:ByteArray),(cs:List Int),_⟩ hp;exact hg (let Z_:=(s.size:Int);let R_:=C1 s cs;let M_:=C2 s cs;let J_:=Value.string s;.cl AjV ((cs.length:Int),(7:Int),()) λ(z2:E_)=>let H_:=Value.int IntKind.i64 z2.1;.lq (List ByteArray×Int×Int×PUnit) M_.inv M_.m ([],((0:Int),((1:Int),()))) λy1 bk1=>.br (decide (y1.2.2.1<Z_)) (.lq (Bool×Int×List ByteArray×Int×Int×PUnit) R_.inv R_.m (false,((0:Int),(y1.1,(y1.2.1,(y1.2.2.1,()))))) λy3 bk3=>.br (decide (y3.2.1<z2.1)) (.br (y3.1) (.re J_<|.re (cs)<|.re H_<|.bk (bk3 (true,(w1 y3.2.1,(y3.2.2.1,(y3.2.2.2.1,(y3.2.2.2.2.1,()))))))) (.ob (inB y3.2.1 cs.length)<|.re J_<|.re (cs)<|.re H_<|.bk (bk3 (cs.getD y3.2.1.toNat default==y3.2.2.2.2.1,(w1 y3.2.1,(y3.2.2.1,(y3.2.2.2.1,(y3.2.2.2.2.1,())))))))) (.br (y3.1) (.ob (0<=y3.2.2.2.1/\y3.2.2.2.1<=y3.2.2.2.2.1/\y3.2.2.2.2.1<=Z_)<|.ap (y3.2.2.1.length+[s.extract y3.2.2.2.1.toNat y3.2.2.2.2.1.toNat].length) 16<|.re J_<|.re (cs)<|.re H_<|.bk (bk1 (y3.2.2.1++[s.extract y3.2.2.2.1.toNat y3.2.2.2.2.1.toNat],(y3.2.2.2.2.1,(w1 y3.2.2.2.2.1,()))))) (.re J_<|.re (cs)<|.re H_<|.bk (bk1 (y3.2.2.1,(y3.2.2.2.1,(w1 y3.2.2.2.2.1,()))))))) (.ob (0<=y1.2.1/\y1.2.1<=Z_)<|.ap (y1.1.length+[s.extract y1.2.1.toNat s.size].length) 16<|.lf PS (y1.1++[s.extract y1.2.1.toNat s.size],()))) (an_ @cutText.eq_1<|an_ @XO<|an_ @Aaw<|an_ @Afy<|an_ @AeX<|@ZA))
def OJ (s:ByteArray):∀ (l:List Int) (a:Int),(pieces s l a).length=l.length+1
 | [],_=>rfl
 | x::l,a=>by rw[pieces,aq,OJ s l x,aq]
def Ve (s:ByteArray) (cs:List Int):(cutText s cs).length<=8:=by
 have:=W6 s cs;rw[N3,OJ];unfold cutPos at this;omega
def OI {α β:Type} [DecidableEq β] (f:α->β):∀ (l:List α) (out:List β) (z:β),z∈uniqBy f out l↔z∈out\/∃ x∈l,f x=z:=by
 intro l
 induction l with
 | nil=>intro out z;simp[uniqBy]
 | cons x l ih=>
  intro out z;simp only[uniqBy,ih,ah,exists_eq_or_imp];split
  ·rename_i h;obtain⟨c,hc,he⟩:=bw.1 h;simp only[av] at he;constructor
   ·rintro(h|h)
    ·exact .inl h
    ·exact .inr (.inr h)
   ·rintro(h|h|h)
    ·exact .inl h
    ·exact .inl (by rw[<-h,<-he];exact hc)
    ·exact .inr h
  ·simp only[ae,List.mem_singleton];constructor
   ·rintro((h|h)|h)
    ·exact .inl h
    ·exact .inr (.inl h.symm)
    ·exact .inr (.inr h)
   ·rintro(h|h|h)
    ·exact .inl (.inl h)
    ·exact .inl (.inr h.symm)
    ·exact .inr h
def hosts (n:N_):List ByteArray:=uniqBy (λs=>s.to.host) [] n.log
def Jz (n:N_):(hosts n).length<=n.log.length:=by
 have h:=KX (λ(s:bE)=>s.to.host) n.log [];simp only[aU] at h;unfold hosts;omega
def sameOk (b x y:N_) (h g:ByteArray):Bool:=decide (g=h)||decide (learnedBy b x g=learnedBy b y g)
def sameOthers (b x y:N_) (h:ByteArray):Bool:=(hosts x++hosts y).all (sameOk b x y h)
def XE {h:ByteArray}:∀ {l:List bE},(∀ s∈l,s.to.host≠h)->tosAt h l=[]:=by
 intro l
 induction l with
 | nil=>intro _;rfl
 | cons s l ih=>
  intro hh;rw[tosAt,F_ (hh s cW)];exact ih λt ht=>hh t (cT _ ht)
def K9 {b n:N_} {g:ByteArray} (h:g∉hosts n):learnedBy b n g=[]:=by
 have h1:tosAt g (n.log.drop b.log.length)=[]:=XE λs hs he=>h (by rw[hosts,OI];exact .inr ⟨s,fC hs,he⟩)
 rw[learnedBy,h1];simp[sortAddrs,S3,A6]
def Xt {b x y:N_} {h g:ByteArray} (hg:sameOk b x y h g=false):sameOthers b x y h=false:=by
 rw[sameOthers,List.all_eq_false];refine⟨g,?_,by simp[hg]⟩;rw[ae];by_cases h1:g∈hosts x
 ·exact .inl h1
 ·by_cases h2:g∈hosts y
  ·exact .inr h2
  ·exfalso;simp[sameOk,K9 h1,K9 h2] at hg
def Xb {b x y:N_} {h:ByteArray} (hh:∀ n∈[b,x,y],(hosts n).all (sameOk b x y h)=true):sameOthers b x y h=true:=by
 rw[sameOthers,List.all_append,hh x (by simp),hh y (by simp)];rfl
def Abj (n:N_):uniqBy (λs:bE=>s.to.host) [] n.log=hosts n:=rfl
def An2 {b x y:N_} {i:Nat} (hi:i<3) (p1:b.log.length<=1048576) (p2:x.log.length<=1048576) (p3:y.log.length<=1048576):([b,x,y].getD i default).log.length<=1048576:=by
 match i,hi with
 | 0,_=>exact p1
 | 1,_=>exact p2
 | 2,_=>exact p3
def VW {l:List ByteArray} {k:Nat} {f:ByteArray->Bool} (h:k<l.length) (h1:(l.take k).all f=true) (h2:f (l.getD k default)=true):(l.take (k+1)).all f=true:=by
 rw[P_ h,List.all_append,h1];simpa using h2
def Afq {b x y:N_} {k:Nat} {f:ByteArray->Bool} (h:k<3) (h1:∀ n∈[b,x,y].take k,(hosts n).all f=true) (h2:(hosts ([b,x,y].getD k default)).all f=true):∀ n∈[b,x,y].take (k+1),(hosts n).all f=true:=by
 intro n hn;rw[P_ (by simpa using h),ae] at hn;rcases hn with hn|hn
 ·exact h1 n hn
 ·rw[List.mem_singleton.1 hn];exact h2
abbrev Er:Fct:=⟨[.v (.el .net),.v (.el .net),.v (.el .net),.v (.el .str)],[.el .bool],λ(x:eV)=>x.2.1.log.length<=1048576/\x.2.2.1.log.length<=1048576/\x.1.log.length<=1048576,λ(x:eV)=>(sameOthers x.1 x.2.1 x.2.2.1 x.2.2.2.1,())⟩
abbrev Bq (b:N_) (x:N_) (y:N_) (h:ByteArray):LInv:=⟨[⟨.s,18,true,.el .int⟩,⟨.s,16,false,.sl .net⟩,⟨.b,4,false,.el .net⟩,⟨.b,5,false,.el .net⟩,⟨.b,6,false,.el .net⟩],λ(z x_:eY)=>(((0<=x_.1/\x_.1<=3/\x_.2.1=[b,x,y]/\∀ n∈x_.2.1.take x_.1.toNat,(hosts n).all (sameOk b x y h)=true)/\x_.2.2.1=z.2.2.1)/\x_.2.2.2.1=z.2.2.2.1)/\x_.2.2.2.2.1=z.2.2.2.2.1,λ(x_:eY)=>3-x_.1.toNat⟩
abbrev Bp (b:N_) (x:N_) (y:N_) (h:ByteArray):LInv:=⟨[⟨.s,25,true,.el .int⟩,⟨.s,23,true,.sl .str⟩,⟨.s,18,true,.el .int⟩,⟨.s,16,false,.sl .net⟩,⟨.b,4,false,.el .net⟩,⟨.b,5,false,.el .net⟩,⟨.b,6,false,.el .net⟩],λ(z x_:eZ)=>(((x_.2.2.1=z.2.2.1/\x_.2.1=z.2.1/\x_.2.2.2.1=z.2.2.2.1/\0<=x_.1/\x_.1<=x_.2.1.length/\(x_.2.1.take x_.1.toNat).all (sameOk b x y h)=true)/\x_.2.2.2.2.1=z.2.2.2.2.1)/\x_.2.2.2.2.2.1=z.2.2.2.2.2.1)/\x_.2.2.2.2.2.2.1=z.2.2.2.2.2.2.1,λ(x_:eZ)=>x_.2.1.length-x_.1.toNat⟩
def E48:=E47.a Er<|Fct.p (KP [3,4,5,6,8,10,12,16,17,18,23,24,25] [19,26,43]) (λ⟨b,x,y,h,_⟩=>λ|2=>some (Bq b x y h)|5=>some (Bp b x y h)|_=>none) E47.2 func8 (by
 rintro⟨(b:N_),(x:N_),(y:N_),(h:ByteArray),_⟩ hp;refine ho (let Z_:=Value.string h=Value.string h;let M_:=(↑[b,x,y].length:Int);let J_:=Value.int IntKind.i64 M_=Value.int IntKind.i64 M_;lpx (Bq b x y h) ((0:Int),([b,x,y],(b,(x,(y,()))))) λ(y1:eY) bk1=>.br (decide (y1.1<M_)) (.ob (inB y1.1 y1.2.1.length)<|.cl LQ (y1.2.1.getD y1.1.toNat default,()) λz2=>let R_:=(z2.1.length:Int);lpx (Bp b x y h) ((0:Int),(z2.1,(y1.1,(y1.2.1,(y1.2.2.1,(y1.2.2.2.1,(y1.2.2.2.2.1,()))))))) λ(y5:eZ) bk5=>let H_:Out:=.ob Z_<|.ob J_<|.ob (Value.int IntKind.i64 R_=Value.int IntKind.i64 R_)<|.ob (bk5 (w1 y5.1,(y5.2.1,(y5.2.2.1,(y5.2.2.2.1,(y5.2.2.2.2.1,(y5.2.2.2.2.2.1,(y5.2.2.2.2.2.2.1,()))))))))<|.ok;.br (decide (y5.1<R_)) (.ob (inB y5.1 y5.2.1.length)<|.ob (y5.1.toNat<y5.2.1.length)<|.br (!(y5.2.1.getD y5.1.toNat default).toList==h.toList) (.cl Ei (y5.2.2.2.2.1,y5.2.2.2.2.2.1,y5.2.1.getD y5.1.toNat default,()) λz3=>.cl Ei (y5.2.2.2.2.1,y5.2.2.2.2.2.2.1,y5.2.1.getD y5.1.toNat default,()) λz4=>.cl Fm (z3.1,z4.1,()) λz5=>.br (!z5.1) (.lf Er (false,())) H_) H_) (.ob Z_<|.ob J_<|.ob (bk1 (w1 y5.2.2.1,(y5.2.2.2.1,(y5.2.2.2.2.1,(y5.2.2.2.2.2.1,(y5.2.2.2.2.2.2.1,()))))))<|.ok)) (.lf Er (true,()))) ?_;refine Aq ?_ λ(y1:eY) i1=>Aa (λh2=>Ac ?_ λ_=>Aj ?_ λ_=>Aq ?_ λ(y5:eZ) i5=>Aa (λh6=>Ac ?_ λ_=>Ac ?_ λ_=>Aa (λh9=>Aj ?_ λ_=>Aj ?_ λ_=>Aj ?_ λ_=>Aa (λh13=>lfY ?_) λh13=>Ac rfl λ_=>Ac rfl λ_=>Ac rfl λ_=>Ac ?_ λ_=>trivial) λh9=>Ac rfl λ_=>Ac rfl λ_=>Ac rfl λ_=>Ac ?_ λ_=>trivial) λh6=>Ac rfl λ_=>Ac rfl λ_=>Ac ?_ λ_=>trivial) (λh2=>lfY ?_)<;>(try obtain⟨⟨⟨⟨a1,a2,a3,a4⟩,a5⟩,a6⟩,a7⟩:=i1;simp only[a3,a5,a6,a7] at *)<;>(have hn1:=Jz b;have hn2:=Jz x;have hn3:=Jz y;have hq:=DD b x;have hq2:=DD b y;try simp only[AA] at *)<;>(try simp only[std,Nat.reduceAdd] at *)<;>(try simp(disch:=omega) only[A_,C_] at *)<;>(try simp(disch:=omega) only[G_,F_])<;>(try simp only[Abj] at *)<;>(try obtain⟨⟨⟨⟨e1,e2,e3,e4,e5,e6⟩,e7⟩,e8⟩,e9⟩:=i5;simp only[e1,e2,e3,e7,e8,e9] at *)<;>(try simp(disch:=omega) only[A_,C_] at *)<;>(first|trivial|omega|exact An2 o_ hp.2.2 hp.1 hp.2.1|skip)<;>(try have g1:=An2 (b:=b) (x:=x) (y:=y) (i:=y1.1.toNat) o_ hp.2.2 hp.1 hp.2.1;have g2:=Jz ([b,x,y].getD y1.1.toNat default))<;>(try simp(disch:=omega) only[A_,C_] at *)
 ·exact⟨o_,o_,by simp⟩
 ·exact⟨o_,o_,by simp⟩
 ·exact aR (hq _) o_
 ·exact(Xt (g:=(hosts ([b,x,y].getD y1.1.toNat default)).getD y5.1.toNat default) (by rw[sameOk,ey h9,ey h13];rfl)).symm
 ·exact⟨⟨⟨⟨⟨trivial,trivial,trivial,o_,o_,VW o_ e6 (by rw[sameOk,bR h13,Bool.or_true])⟩,trivial⟩,trivial⟩,trivial⟩,o_⟩
 ·exact⟨⟨⟨⟨⟨trivial,trivial,trivial,o_,o_,VW o_ e6 (by rw[sameOk,bR h9,Bool.true_or])⟩,trivial⟩,trivial⟩,trivial⟩,o_⟩
 ·exact⟨⟨⟨⟨⟨o_,o_,trivial,Afq o_ a4 (by rw[ci o_] at e6;exact e6)⟩,trivial⟩,trivial⟩,trivial⟩,o_⟩
 ·rw[ci (by simp;omega)] at a4;exact(Xb a4).symm)
def nameByte (b:UInt8):Bool:=97<=b.toNat&&b.toNat<=122
def bts (s:ByteArray):List UInt8:=s.data.toList
def AiH (s:ByteArray):(bts s).length=s.size:=rfl
def AkU {s:ByteArray} {i:Nat} (h:i<s.size):(bts s).drop i=s.data.getD i 0::(bts s).drop (i+1):=by
 have h2:i<s.data.size:=h;have e:s.data.getD i 0=s.data[i]:=by unfold Array.getD;rw[dif_pos h2];rfl
 rw[List.drop_eq_getElem_cons (by rw[AiH];exact h),e];rfl
def Ahs {s:ByteArray} {i:Nat} (h:s.size<=i):(bts s).drop i=[]:=bQ h
def allB (p:UInt8->Bool) (l:List UInt8):Bool:=l.all p
def AaH {p:UInt8->Bool} {s:ByteArray} {i:Nat} (h:i<s.size):allB p ((bts s).drop i)=(p (s.data.getD i 0)&&allB p ((bts s).drop (i+1))):=by rw[AkU h];rfl
def Wm {p:UInt8->Bool} {s:ByteArray} {i:Nat} (h:s.size<=i):allB p ((bts s).drop i)=true:=by rw[Ahs h];rfl
def isName (s:ByteArray):Bool:=allB nameByte (bts s)&&decide (1<=s.size/\s.size<=8)
abbrev CA:Fct:=⟨[.v (.el .str)],[.el .bool],λ(x:D_)=>x.1.size<=1000000000000000000,λ(x:D_)=>(isName x.1,())⟩
abbrev Ca (s:ByteArray):LInv:=⟨[⟨.s,3,true,.el .int⟩],λ_ (x:E_)=>0<=x.1/\x.1<=s.size/\allB nameByte ((bts s).drop x.1.toNat)=allB nameByte (bts s),λ(x:E_)=>s.size-x.1.toNat⟩
def E49:=E48.a CA<|Fct.p (KP [0,2,3] [7,19]) (λ⟨s,_⟩=>lv [(2,Ca s)]) E48.2 func98 (by
 rintro⟨(s:ByteArray),_⟩ hp;exact hg (.lq (Int×PUnit) (Ca s).inv (Ca s).m ((0:Int),()) λy1 bk1=>.br (decide (y1.1<(s.size:Int))) (.ob (0<=y1.1/\y1.1<(s.size:Int))<|.br (decide ((↑(s.data.getD y1.1.toNat 0).toNat:Int)<97)) (.lf CA (false,())) (.ob (0<=y1.1/\y1.1<(s.size:Int))<|.br (decide ((↑(s.data.getD y1.1.toNat 0).toNat:Int)>122)) (.lf CA (false,())) (.re (Value.string s)<|.bk (bk1 (w1 y1.1,()))))) (.cl AC ((s.size:Int),(1:Int),(8:Int),()) λz2=>.lf CA (z2.1,()))) (an_ @isName.eq_1<|an_ @nameByte.eq_1<|an_ @inRange.eq_1<|an_ @AaH<|@Wm))
def valByte (b:UInt8):Bool:=(97<=b.toNat&&b.toNat<=122)||(48<=b.toNat&&b.toNat<=57)||b.toNat==47
def isValue (s:ByteArray):Bool:=allB valByte (bts s)&&decide (1<=s.size/\s.size<=20)
abbrev IG:Fct:=⟨[.v (.el .str)],[.el .bool],λ(x:D_)=>x.1.size<=1000000000000000000,λ(x:D_)=>(isValue x.1,())⟩
abbrev C6 (s:ByteArray):LInv:=⟨[⟨.s,3,true,.el .int⟩],λ_ (x:E_)=>0<=x.1/\x.1<=s.size/\allB valByte ((bts s).drop x.1.toNat)=allB valByte (bts s),λ(x:E_)=>s.size-x.1.toNat⟩
def E50:=E49.a IG<|Fct.p (KP [0,2,3] [7,37]) (λ⟨s,_⟩=>lv [(2,C6 s)]) E49.2 func131 (by
 rintro⟨(s:ByteArray),_⟩ hp;exact hg (let ax:=C6 s;let ar:=(s.size:Int);.lq (Int×PUnit) ax.inv ax.m ((0:Int),()) λy1 bk1=>let R_:Out:=.re (Value.string s)<|.bk (bk1 (w1 y1.1,()));let M_:=0<=y1.1/\y1.1<ar;let J_:=(↑(s.data.getD y1.1.toNat 0).toNat:Int);let Z_:Out:=.ob M_<|.br (J_ != 47) (.lf IG (false,())) R_;let H_:Out:=.ob M_<|.br (decide (J_<48)) Z_ (.ob M_<|.br (decide (J_>57)) Z_ R_);.br (decide (y1.1<ar)) (.ob M_<|.br (decide (J_<97)) H_ (.ob M_<|.br (decide (J_>122)) H_ R_)) (.cl AC (ar,(1:Int),(20:Int),()) λz2=>.lf IG (z2.1,()))) (an_ @isValue.eq_1<|an_ @valByte.eq_1<|an_ @inRange.eq_1<|an_ @AaH<|@Wm))
abbrev F4:Fct:=⟨[.v (.el .addr)],[.el .bool],λ(x:au)=>x.1.host.size<=1000000000000000000/\x.1.path.size<=1000000000000000000,λ(x:au)=>(isName x.1.host&&isName x.1.path,())⟩
def E51:=E50.a F4<|Fct.o [1,2] E50.2 func55 (by
 rintro⟨(a:FS),_⟩ hp;exact hq (.cl CA (a.host,()) λz2=>.br (z2.1) (.cl CA (a.path,()) λz3=>.lf F4 (z3.1,())) (.lf F4 (false,()))))
def Zq {l:List ByteArray} {i:Nat} (h:i<l.length):(l.getD i default).size+l.length<=szL Ag l:=by
 have:=Ct Ag h;omega
abbrev O6:Fct:=⟨[.v (.sl .str)],[.el .bool],λ(x:bJ)=>szL Ag x.1<=1099511627776,λ(x:bJ)=>(x.1.all isName&&decide (x.1.length<=4),())⟩
abbrev Cf (l:(List ByteArray)):LInv:=⟨[⟨.s,3,true,.el .int⟩],λ_ (x:E_)=>0<=x.1/\x.1<=l.length/\(l.drop x.1.toNat).all isName=l.all isName,λ(x:E_)=>l.length-x.1.toNat⟩
def E52:=E51.a O6<|Fct.p (KP [0,2,3] [7,15]) (λ⟨l,_⟩=>lv [(2,Cf l)]) E51.2 func130 (by
 rintro⟨(l:List ByteArray),_⟩ hp;exact hg (.lq (Int×PUnit) (Cf l).inv (Cf l).m ((0:Int),()) λy1 bk1=>.br (decide (y1.1<(l.length:Int))) (.ob (inB y1.1 l.length)<|.cl CA (l.getD y1.1.toNat default,()) λz2=>.br (!z2.1) (.lf O6 (false,())) (.re (l)<|.bk (bk1 (w1 y1.1,())))) (.lf O6 (decide ((l.length:Int)<=4),()))) (an_ (Ad Ag l)<|(λi h=>by have:=Zq h;have hp2:szL Ag l<=1099511627776:=hp;omega:∀ i,i<l.length->(l.getD i default).size<=1000000000000000000)))
def isPolicy (p:aQ):Bool:=if p.set_ then p.bt.all isName&&decide (p.bt.length<=4)&&(p.styles.all isName&&decide (p.styles.length<=4))&&(p.images.all isName&&decide (p.images.length<=4))&&(decide (p.nonce=⟨#[]⟩)||isValue p.nonce) else decide (p.bt.length=0/\p.styles.length=0/\p.images.length=0/\p.nonce=⟨#[]⟩)
abbrev CD:Fct:=⟨[.v (.el .bm)],[.el .bool],λ(x:aS)=>AD x.1<=1099511627776,λ(x:aS)=>(isPolicy x.1,())⟩
def E53:=E52.a CD<|Fct.o (KP [1,2] [5]) E52.2 func85 (by
 rintro⟨(p:aQ),_⟩ hp;exact hg (.br (!p.set_) (.br ((p.bt.length:Int)==0) (.br ((p.styles.length:Int)==0) (.br ((p.images.length:Int)==0) (.lf CD (p.nonce.toList==(⟨#[]⟩:ByteArray).toList,())) (.lf CD (false,()))) (.lf CD (false,()))) (.lf CD (false,()))) (.cl O6 (p.bt,()) λz2=>.br (z2.1) (.cl O6 (p.styles,()) λz3=>.br (z3.1) (.cl O6 (p.images,()) λz4=>.br (z4.1) (.br (p.nonce.toList==(⟨#[]⟩:ByteArray).toList) (.lf CD (true,())) (.cl IG (p.nonce,()) λz5=>.lf CD (z5.1,()))) (.lf CD (false,()))) (.lf CD (false,()))) (.lf CD (false,())))) (an_ @isPolicy.eq_1<|@AD.eq_1))
abbrev GR:Fct:=⟨[.v (.el .bm),.v (.el .int),.v (.el .str)],[.el .bool],λ(x:gm)=>AD x.1<=1099511627776,λ(x:gm)=>(!x.1.set_||(if x.2.1=2\/x.2.1=5 then x.1.bt.any (λc=>decide (c=x.2.2.1)) else if x.2.1=3 then x.1.styles.any (λc=>decide (c=x.2.2.1)) else if x.2.1=4 then x.1.images.any (λc=>decide (c=x.2.2.1)) else false),())⟩
def E54:=E53.a GR<|Fct.o (KP [1,2,3,6] [7,11,22,29]) E53.2 func196 (by
 rintro⟨(p:aQ),(k:Int),(h:ByteArray),_⟩ hp;exact hg (.br (!p.set_) (.lf GR (true,())) (.br (k==2) (.cl SU (p.bt,h,()) λz2=>.lf GR (z2.1,())) (.br (k==5) (.cl SU (p.bt,h,()) λz3=>.lf GR (z3.1,())) (.br (k==3) (.cl SU (p.styles,h,()) λz4=>.lf GR (z4.1,())) (.br (k==4) (.cl SU (p.images,h,()) λz5=>.lf GR (z5.1,())) (.lf GR (false,()))))))) (an_ @AD.eq_1<|an_ (Ad Ag p.bt)<|an_ (Ad Ag p.styles)<|(Ad Ag p.images)))
def isRequest (r:ay):Bool:=inRange r.kind 1 5&&(isName r.to.host&&isName r.to.path)&&isName r.from_&&(decide (r.digest=⟨#[]⟩)||isValue r.digest)
abbrev Dq:Fct:=⟨[.v (.el .request)],[.el .bool],λ(x:fe)=>Bx x.1<=1099511627776,λ(x:fe)=>(isRequest x.1,())⟩
def E55:=E54.a Dq<|Fct.o [1,2] E54.2 func195 (by
 rintro⟨(r:ay),_⟩ hp;exact hg (.cl AC (r.kind,(1:Int),(5:Int),()) λz2=>.br (z2.1) (.cl F4 (r.to,()) λz3=>.br (z3.1) (.cl CA (r.from_,()) λz4=>.br (z4.1) (.br (r.digest.toList==(⟨#[]⟩:ByteArray).toList) (.lf Dq (true,())) (.cl IG (r.digest,()) λz5=>.lf Dq (z5.1,()))) (.lf Dq (false,()))) (.lf Dq (false,()))) (.lf Dq (false,()))) (an_ @isRequest.eq_1<|an_ @Bx.eq_1<|@szAddr.eq_1))
def allows (p:aQ) (k:Int) (h:ByteArray):Bool:=(GR.fn (p,k,h,())).1
def checkRequest (p:aQ) (r:ay):Int:=if isRequest r&&(decide (r.kind=1)||allows p r.kind r.to.host) then 1 else 2
abbrev Bs:Fct:=⟨[.v (.el .bm),.v (.el .request)],[.el .int],λ(x:gn)=>AD x.1<=1099511627776/\Bx x.2.1<=1099511627776,λ(x:gn)=>(checkRequest x.1 x.2.1,())⟩
def E56:=E55.a Bs<|Fct.o (KP [2,3,4] [22]) E55.2 func152 (by
 rintro⟨(p:aQ),(r:ay),_⟩ hp;exact hg (.cl Dq (r,()) λz2=>.br (!z2.1) (.lf Bs ((2:Int),())) (.br (r.kind != 1) (.cl GR (p,r.kind,r.to.host,()) λz3=>.br (!z3.1) (.lf Bs ((2:Int),())) (.lf Bs ((1:Int),()))) (.lf Bs ((1:Int),())))) (an_ @checkRequest.eq_1<|@allows.eq_1))
abbrev HJ:Fct:=⟨[.v (.el .bd),.v (.el .int)],[.el .bool],λ(x:L_×Int×Unit)=>True,λ(x:L_×Int×Unit)=>(decide (x.1.kind=x.2.1)||decide (x.2.1=5/\x.1.kind=2),())⟩
def E57:=E56.a HJ<|Fct.o [1,2,4] E56.2 func153 (by
 rintro⟨(x:L_),(k:Int),_⟩ hp;exact hq (.br (x.kind==k) (.lf HJ (true,())) (.br (k==5) (.lf HJ (x.kind==2,())) (.lf HJ (false,())))))
def notFound:L_:=⟨404,1,⟨#[]⟩,0,false,⟨#[]⟩⟩
abbrev FA:Fct:=⟨[],[rE .bd],λ_=>True,λ_=>(notFound,())⟩
def E58:=E57.a FA<|Fct.o [0] E57.2 func56 (by
 rintro⟨_⟩ hp;refine ho (.lf FA (⟨(404:Int),(1:Int),(⟨#[]⟩:ByteArray),(0:Int),false,(⟨#[]⟩:ByteArray)⟩,())) ?_;refine lfY ?_;all_goals
  try simp only[AA] at *
  try simp only[std,Nat.reduceAdd] at *
 all_goals first|trivial|omega|(simp_all;done)|(simp_all;omega)|grind)
abbrev CH:Fct:=⟨[.v (.sl .server)],[.sl .server],λ(x:bB)=>szL Af x.1<=68719476736,λ(x:bB)=>(x.1,())⟩
abbrev Bg (l:(List V_)):LInv:=⟨[⟨.s,3,true,.sl .server⟩,⟨.s,4,true,.el .int⟩],λ_ (x:(List V_)×Int×Unit)=>0<=x.2.1/\x.2.1<=l.length/\x.1=l.take x.2.1.toNat,λ(x:(List V_)×Int×Unit)=>l.length-x.2.1.toNat⟩
def E59:=E58.a CH<|Fct.p (KP [0,2,3,4] [9]) (λ⟨l,_⟩=>lv [(3,Bg l)]) E58.2 func88 (by
 rintro⟨(l:List V_),_⟩ hp;exact hg (.lq (List V_×Int×PUnit) (Bg l).inv (Bg l).m ([],((0:Int),())) λy1 bk1=>.br (decide (y1.2.1<(l.length:Int))) (.ob (inB y1.2.1 l.length)<|.ob (inB y1.2.1 l.length)<|.ap (l.getD y1.2.1.toNat default).files.length 80<|.ob (IJ (y1.1.length+[l.getD y1.2.1.toNat default].length) 40)<|.re (l)<|.bk (bk1 (y1.1++[l.getD y1.2.1.toNat default],(w1 y1.2.1,())))) (.lf CH (y1.1,()))) (an_ @P_<|an_ @cF<|an_ (Ad Af l)<|(λi h=>by have:=Li h;have hp2:szL Af l<=68719476736:=hp;omega:∀ i,i<l.length->(l.getD i default).files.length<=68719476736)))
abbrev GB:Fct:=⟨[.v (.el .cache)],[.el .cache],λ(x:cw)=>szCache x.1<=68719476736,λ(x:cw)=>(x.1,())⟩
def E60:=E59.a GB<|Fct.o [1,2] E59.2 func97 (by
 rintro⟨(c:bD),_⟩ hp;exact hg (.ap (0+c.bh.length) 120<|.lf GB (⟨[]++c.bh⟩,())) (an_ @szCache.eq_1<|(Ad Bh c.bh)))
abbrev JF:Fct:=⟨[.v (.el .net)],[.el .net],λ(x:bC)=>szNet x.1<=68719476736,λ(x:bC)=>(x.1,())⟩
def E61:=E60.a JF<|Fct.o [1,2] E60.2 func54 (by
 rintro⟨(n:N_),_⟩ hp;exact hg (.cl CH (n.servers,()) λz2=>.cl GB (n.cache,()) λz3=>.ap n.log.length 56<|.lf JF (⟨z2.1,z3.1,n.log,n.now⟩,())) (an_ @szNet.eq_1<|(Ad Gv n.log)))
abbrev Gi:Fct:=⟨[.v (.sl .server),.v (.el .str)],[.el .int],λ(x:gp)=>x.1.length<=1000000000000,λ(x:gp)=>(AQ (λs=>decide (s.host=x.2.1)) x.1 0,())⟩
abbrev Bt (l:(List V_)) (h:ByteArray):LInv:=⟨[⟨.s,5,true,.el .int⟩],λ_ (x:E_)=>0<=x.1/\x.1<=l.length/\AQ (λs=>decide (s.host=h)) (l.drop x.1.toNat) x.1=AQ (λs=>decide (s.host=h)) l 0,λ(x:E_)=>l.length-x.1.toNat⟩
def E62:=E61.a Gi<|Fct.p (KP [0,1,4,5] [9,18]) (λ⟨l,h,_⟩=>lv [(2,Bt l h)]) E61.2 func89 (by
 rintro⟨(l:List V_),(h:ByteArray),_⟩ hp;exact hg (.lq (Int×PUnit) (Bt l h).inv (Bt l h).m ((0:Int),()) λy1 bk1=>.br (decide (y1.1<(l.length:Int))) (.ob (inB y1.1 l.length)<|.br ((l.getD y1.1.toNat default).host.toList==h.toList) (.lf Gi (y1.1,())) (.re (l)<|.re (Value.string h)<|.bk (bk1 (w1 y1.1,())))) (.lf Gi ((-1:Int),()))) (an_ @AQ.eq_1<|@AQ.eq_2))
abbrev HP:Fct:=⟨[.v (.el .server),.v (.el .str)],[.el .int],λ(x:gq)=>x.1.files.length<=1000000000000,λ(x:gq)=>(AQ (λf=>decide (f.path=x.2.1)) x.1.files 0,())⟩
abbrev BW (s:V_) (p:ByteArray):LInv:=⟨[⟨.s,5,true,.el .int⟩,⟨.b,2,false,.el .server⟩],λ(z x:dw)=>(0<=x.1/\x.1<=s.files.length/\AQ (λf=>decide (f.path=p)) (s.files.drop x.1.toNat) x.1=AQ (λf=>decide (f.path=p)) s.files 0)/\x.2.1=z.2.1,λ(x:dw)=>s.files.length-x.1.toNat⟩
def E63:=E62.a HP<|Fct.p (KP [1,2,4,5] [10,20]) (λ⟨s,p,_⟩=>lv [(2,BW s p)]) E62.2 func90 (by
 rintro⟨(s:V_),(p:ByteArray),_⟩ hp;exact hg (.lq (Int×V_×PUnit) (BW s p).inv (BW s p).m ((0:Int),(s,())) λy1 bk1=>.br (decide (y1.1<(y1.2.1.files.length:Int))) (.ob (inB y1.1 y1.2.1.files.length)<|.br ((y1.2.1.files.getD y1.1.toNat default).path.toList==p.toList) (.lf HP (y1.1,())) (.re (Value.string p)<|.bk (bk1 (w1 y1.1,(y1.2.1,()))))) (.lf HP ((-1:Int),()))) (an_ @AQ.eq_1<|@AQ.eq_2))
def answerTo (l:List V_) (a:FS):L_:=if AQ (λs=>decide (s.host=a.host)) l 0<0 then notFound else if AQ (λf=>decide (f.path=a.path)) (l.getD (AQ (λs=>decide (s.host=a.host)) l 0).toNat default).files 0<0 then notFound else((l.getD (AQ (λs=>decide (s.host=a.host)) l 0).toNat default).files.getD (AQ (λf=>decide (f.path=a.path)) (l.getD (AQ (λs=>decide (s.host=a.host)) l 0).toNat default).files 0).toNat default).bd
abbrev Ht:Fct:=⟨[.v (.sl .server),.v (.el .addr)],[.el .bd],λ(x:gu)=>szL Af x.1<=68719476736,λ(x:gu)=>(answerTo x.1 x.2.1,())⟩
def E64:=E63.a Ht<|Fct.o (KP [0,3,4,5,6] [12,22]) E63.2 func58 (by
 rintro⟨(l:List V_),(a:FS),_⟩ hp;exact hg (.cl Gi (l,a.host,()) λ(z2:E_)=>.br (decide (z2.1<0)) (.cl FA () λz3=>.lf Ht (z3.1,())) (.ob (0<=z2.1/\z2.1<(↑(List.length l):Int))<|.cl HP (List.getD l z2.1.toNat default,a.path,()) λ(z4:E_)=>.br (decide (z4.1<0)) (.cl FA () λz5=>.lf Ht (z5.1,())) (.ob (0<=z2.1/\z2.1<(↑(List.length l):Int))<|.ob (0<=z4.1/\z4.1<(↑(List.getD l z2.1.toNat default).files.length:Int))<|.lf Ht (((List.getD l z2.1.toNat default).files.getD z4.1.toNat default).bd,())))) (an_ @answerTo.eq_1<|an_ (Ad Af l)<|an_ (λi h=>by have:=Li h;have hp2:szL Af l<=68719476736:=hp;omega:∀ i,i<l.length->(l.getD i default).files.length<=68719476736)<|an_ (BP (λs:V_=>decide (s.host=a.host)) l 0 o_)<|(λfs=>BP (λf:aD=>decide (f.path=a.path)) fs 0 o_)))
abbrev Gz:Fct:=⟨[.v (.el .cache),.v (.el .str),.v (.el .addr)],[.el .int],λ(x:gw)=>x.1.bh.length<=1000000000000,λ(x:gw)=>(AQ (λe=>decide (e.top=x.2.1)&&decide (e.to=x.2.2.1)) x.1.bh 0,())⟩
abbrev CB (c:bD) (t:ByteArray) (a:FS):LInv:=⟨[⟨.s,7,true,.el .int⟩,⟨.b,3,false,.el .cache⟩,⟨.b,5,true,.el .addr⟩],λ(z x:gx)=>((0<=x.1/\x.1<=c.bh.length/\AQ (λe=>decide (e.top=t)&&decide (e.to=a)) (c.bh.drop x.1.toNat) x.1=AQ (λe=>decide (e.top=t)&&decide (e.to=a)) c.bh 0)/\x.2.1=z.2.1)/\x.2.2.1=z.2.2.1,λ(x:gx)=>c.bh.length-x.1.toNat⟩
def E65:=E64.a Gz<|Fct.p (KP [1,3,5,6,7] [12,32]) (λ⟨c,t,a,_⟩=>lv [(2,CB c t a)]) E64.2 func137 (by
 rintro⟨(c:bD),(t:ByteArray),(a:FS),_⟩ hp;exact hg (let M_:=CB c t a;.lq (Int×bD×FS×PUnit) M_.inv M_.m ((0:Int),(c,(a,()))) λy1 bk1=>let R_:=inB y1.1 y1.2.1.bh.length;let J_:Out:=.re (Value.string t)<|.bk (bk1 (w1 y1.1,(y1.2.1,(y1.2.2.1,()))));let H_:=y1.2.1.bh.getD y1.1.toNat default;.br (decide (y1.1<(y1.2.1.bh.length:Int))) (.ob R_<|.br (H_.top.toList==t.toList) (.ob R_<|.br (H_.to.host==y1.2.2.1.host&&(H_.to.path==y1.2.2.1.path&&true)) (.lf Gz (y1.1,())) J_) J_) (.lf Gz ((-1:Int),()))) (an_ @AQ.eq_1<|@AQ.eq_2))
def freshEntry (t:ByteArray) (a:FS) (now:Int) (e:ce):Bool:=decide (e.top=t)&&(decide (e.to=a)&&decide (now<=e.until_))
def lookUp (c:bD) (t:ByteArray) (a:FS) (now:Int):Option L_:=(c.bh.find? (freshEntry t a now)).map (·.bd)
abbrev Nn:Fct:=⟨[.v (.el .cache),.v (.el .str),.v (.el .addr),.v (.el .int)],[.el .bd,.el .bool],λ(x:gy)=>x.1.bh.length<=1000000000000,λ(x:gy)=>((lookUp x.1 x.2.1 x.2.2.1 x.2.2.2.1).getD notFound,(lookUp x.1 x.2.1 x.2.2.1 x.2.2.2.1).isSome,())⟩
def AdH {α:Type} [Inhabited α] (p:α->Bool):∀ (l:List α) (i:Int),0<=i->l.find? p=if 0<=AQ p l i then some (l.getD (AQ p l i-i).toNat default) else none:=by
 intro l
 induction l with
 | nil=>intro i _;simp[AQ]
 | cons x l ih=>
  intro i hi;simp only[List.find?_cons,AQ];by_cases hx:p x=true
  ·simp[hx,hi]
  ·
   have hx:p x=false:=by simpa using hx
   have h1:=BP p l (i+1) o_;have h2:=ih (i+1) o_;simp only[hx,cD,aP,h2];split
   ·rename_i h3;have h4:i+1<=AQ p l (i+1):=by
     have:∀ (l:List α) (i:Int),0<=i->0<=AQ p l i->i<=AQ p l i:=by
      intro l
      induction l with
      | nil=>intro i _ h;simp[AQ] at h
      | cons y l ih=>
       intro i hi h;simp only[AQ] at h ⊢;split
       ·omega
       ·grind
     grind
    have h5:(AQ p l (i+1)-i).toNat=(AQ p l (i+1)-(i+1)).toNat+1:=o_
    rw[h5];rfl
   ·rfl
abbrev DP (c:bD) (t:ByteArray) (a:FS) (now:Int):LInv:=⟨[⟨.s,10,true,.el .int⟩,⟨.b,4,false,.el .cache⟩,⟨.b,6,true,.el .addr⟩,⟨.b,8,true,.el .bd⟩],λ(z x:gA)=>(((0<=x.1/\x.1<=c.bh.length/\(c.bh.drop x.1.toNat).find? (freshEntry t a now)=c.bh.find? (freshEntry t a now))/\x.2.1=z.2.1)/\x.2.2.1=z.2.2.1)/\x.2.2.2.1=z.2.2.2.1,λ(x:gA)=>c.bh.length-x.1.toNat⟩
def E66:=E65.a Nn<|Fct.p (KP [1,3,4,6,8,9,10] [15,45]) (λ⟨c,t,a,now,_⟩=>lv [(2,DP c t a now)]) E65.2 func57 (by
 rintro⟨(c:bD),(t:ByteArray),(a:FS),(now:Int),_⟩ hp;exact hg (let R_:=DP c t a now;.lq (Int×bD×FS×L_×PUnit) R_.inv R_.m ((0:Int),(c,(a,(default,())))) λy1 bk1=>let M_:=inB y1.1 y1.2.1.bh.length;let J_:=y1.2.1.bh.getD y1.1.toNat default;let H_:Out:=.re (Value.string t)<|.re (Value.int IntKind.i64 now)<|.bk (bk1 (w1 y1.1,(y1.2.1,(y1.2.2.1,(y1.2.2.2.1,())))));.br (decide (y1.1<(y1.2.1.bh.length:Int))) (.ob M_<|.br (J_.top.toList==t.toList) (.ob M_<|.br (J_.to.host==y1.2.2.1.host&&(J_.to.path==y1.2.2.1.path&&true)) (.ob M_<|.br (decide (J_.until_>=now)) (.ob M_<|.lf Nn (J_.bd,true,())) H_) H_) H_) (.cl FA () λz2=>.lf Nn (z2.1,false,()))) (an_ @lookUp.eq_1<|@freshEntry.eq_1))
def modM (n m:Int):Int:=if 1<=m/\m<=1000000000000 then n.emod m else 0
abbrev Ald:Fct:=⟨[.v (.el .int),.v (.el .int)],[.el .int],λ(x:bI)=>-9223372036854775808<=x.1/\x.1<=9223372036854775807,λ(x:bI)=>(modM x.1 x.2.1,())⟩
def Xg {n m:Int} (hm:0<m):(n.tmod m+m).tmod m=n.emod m:=by
 have h1:=Int.tmod_lt_of_pos n hm;have h2 : -m<n.tmod m:=by have:=Int.lt_tmod_of_pos n hm;omega
 rw[Int.tmod_eq_emod_of_nonneg o_];rw[Int.tmod_eq_emod];split
 ·simp;rfl
 ·rw[show n % m-m.natAbs+m=n % m from o_];simp;rfl
def W8 {n m:Int} (hm:0<m):(if n.tmod m<0 then n.tmod m+m else n.tmod m)=n.emod m:=by
 have h0:=Int.emod_nonneg n (show m≠0 from o_);have h3:=Int.emod_lt_of_pos n hm;have e0:n.emod m=n % m:=rfl;grind
def E67:=E66.a Ald<|Fct.o (KP [0,1,4] [7]) E66.2 func223 (by
 rintro⟨(n:Int),(m:Int),_⟩ hp;refine ho (.cl AC (m,(1:Int),(1000000000000:Int),()) λz2=>.br (!z2.1) (.lf Ald ((0:Int),())) (.ob (m≠(0:Int))<|.ob (m≠(0:Int))<|.lf Ald ((wr (Int.tmod n m+m)).tmod m,()))) ?_;refine Aj trivial λ_=>(Aa (λh1=>lfY ?_) λh1=>Ac ?_ λ_=>Ac ?_ λ_=>lfY ?_)<;>(by_cases hm:1<=m/\m<=1000000000000)<;>(try have e1:=Xg (n:=n) (m:=m) o_)<;>(try have e2:=W8 (n:=n) (m:=m) o_)<;>(try have e3:=Int.tmod_lt_of_pos n (show 0<m from o_))<;>(try have e4:=Int.lt_tmod_of_pos n (show 0<m from o_))<;>(try simp only[AA] at *)<;>(try simp only[std,Nat.reduceAdd,inRange,modM] at *)<;>(try simp(disch:=omega) only[A_,C_] at *)<;>(try simp(disch:=omega) only[G_,F_])<;>(try simp only[S_,fX,av,cy] at *)<;>(first|omega|skip)<;>(try rw[Aw o_])<;>(try rw[G_ hm])<;>(first|omega|exact e1|(rw[G_ o_] at e2;exact e2)|(rw[F_ o_] at e2;exact e2)|(rw[F_ hm])))
def hashI:List Int->Int->Int
 | [],d=>d
 | x::l,d=>hashI l ((d*1000003+modM x 2147483647+13).tmod 2147483647)
def AeV {l:List Int} {i:Nat} {d:Int} (h:i<l.length):hashI (l.drop i) d=hashI (l.drop (i+1)) ((d*1000003+modM (l.getD i default) 2147483647+13).tmod 2147483647):=by rw[B_ h];rfl
def Zj {l:List Int} {i:Nat} {d:Int} (h:l.length<=i):hashI (l.drop i) d=d:=by rw[bQ h];rfl
def Pb (x:Int):0<=modM x 2147483647/\modM x 2147483647<2147483647:=by
 have h0:=Int.emod_nonneg x (show(2147483647:Int)≠0 from o_);have h3:=Int.emod_lt_of_pos x (show(0:Int)<2147483647 from o_);have e0:modM x 2147483647=x % 2147483647:=rfl;omega
def O4 {x:Int} (h:0<=x):0<=x.tmod 2147483647/\x.tmod 2147483647<2147483647:=by
 grind
abbrev AhM:Fct:=⟨[.v (.sl .int)],[.el .int],λ(x:am)=>x.1.length<=1000000000000/\∀ i,i<x.1.length->-9223372036854775808<=x.1.getD i default/\x.1.getD i default<=9223372036854775807,λ(x:am)=>(hashI x.1 11,())⟩
abbrev Ft (l:(List Int)):LInv:=⟨[⟨.s,3,true,.el .int⟩,⟨.s,4,true,.el .int⟩],λ_ (x:bI)=>0<=x.2.1/\x.2.1<=l.length/\0<=x.1/\x.1<2147483647/\hashI (l.drop x.2.1.toNat) x.1=hashI l 11,λ(x:bI)=>l.length-x.2.1.toNat⟩
def E68:=E67.a AhM<|Fct.p (KP [0,2,3,4] [8]) (λ⟨l,_⟩=>lv [(3,Ft l)]) E67.2 func218 (by
 rintro⟨(l:List Int),_⟩ hp;refine ho (lpx (Ft l) ((11:Int),((0:Int),())) λ(y1:bI) bk1=>.br (decide (y1.2.1<(l.length:Int))) (.ob (inB y1.2.1 l.length)<|.cl Ald (l.getD y1.2.1.toNat default,(2147483647:Int),()) λ(z2:E_)=>.ob ((2147483647:Int)≠(0:Int))<|.ob (l=l)<|.ob (Value.int IntKind.i64 0=Value.int IntKind.i64 (0:Int))<|.ob (bk1 ((wr (wr (wr (y1.1*(1000003:Int))+z2.1)+13)).tmod (2147483647:Int),(w1 y1.2.1,())))<|.ok) (.lf AhM (y1.1,()))) ?_;refine Aq ?_ λ(y1:bI) i1=>Aa (λh2=>Ac ?_ λ_=>Aj ?_ λ_=>Ac ?_ λ_=>Ac rfl λ_=>Ac rfl λ_=>Ac ?_ λ_=>trivial) (λh2=>lfY ?_)<;>(try simp only[AA] at *)<;>(try simp only[std,Nat.reduceAdd] at *)<;>obtain⟨hp1,hp2⟩:=hp<;>(try obtain⟨a1,a2,a3,a4,a5⟩:=i1)<;>(try have hm:=Pb (l.getD y1.2.1.toNat default);have ht:=O4 (x:=y1.1*1000003+modM (l.getD y1.2.1.toNat default) 2147483647+13) o_)<;>(try simp(disch:=omega) only[A_,C_] at *)<;>(first|trivial|omega|exact⟨o_,o_,o_,o_,rfl⟩|exact hp2 _ o_|skip)
 ·rw[AeV o_] at a5;exact⟨⟨o_,o_,ht.1,ht.2,a5⟩,o_⟩
 ·rw[Zj o_] at a5;exact a5)
def bti (b l:List Int):List Int:=(b.length:Int)::l
abbrev HQ:Fct:=⟨[.v (.sl .u8)],[.sl .int],λ(x:am)=>x.1.length<=68719476736/\∀ i,i<x.1.length->0<=x.1.getD i default/\x.1.getD i default<=255,λ(x:am)=>(bti x.1 x.1,())⟩
abbrev AY (b:(List Int)):LInv:=⟨[⟨.s,3,true,.sl .int⟩,⟨.s,4,true,.el .int⟩],λ_ (x:bN)=>0<=x.2.1/\x.2.1<=b.length/\x.1=bti b (b.take x.2.1.toNat),λ(x:bN)=>b.length-x.2.1.toNat⟩
def E69:=E68.a HQ<|Fct.p (KP [0,2,3,4] [11]) (λ⟨b,_⟩=>lv [(3,AY b)]) E68.2 func219 (by
 rintro⟨(b:List Int),_⟩ hp;exact hg (.lq (List Int×Int×PUnit) (AY b).inv (AY b).m ([(b.length:Int)],((0:Int),())) λy1 bk1=>.br (decide (y1.2.1<(b.length:Int))) (.ob (inB y1.2.1 b.length)<|.ap (y1.1.length+[wr (b.getD y1.2.1.toNat default)].length) 8<|.re (b)<|.bk (bk1 (y1.1++[wr (b.getD y1.2.1.toNat default)],(w1 y1.2.1,())))) (.lf HQ (y1.1,()))) (an_ @P_<|an_ @cF<|@bti.eq_1))
abbrev AL:Fct:=⟨[.v (.el .int)],[.el .str],λ(x:E_)=>-9223372036854775808<=x.1/\x.1<=9223372036854775807,λ(x:E_)=>(R0 x.1,())⟩
abbrev Cm (n:Int):LInv:=⟨[⟨.s,3,true,.el .str⟩,⟨.s,4,true,.el .int⟩],λ_ (x:aa)=>n≠0/\-9223372036854775808<=x.2.1/\x.2.1<=9223372036854775807/\(x.2.1:Int).natAbs+4*x.1.size<=n.natAbs+(if x.2.1=0 then 4 else 0)/\Ad2 (x.2.1:Int).natAbs x.1=Ad2 n.natAbs ⟨#[]⟩,λ(x:aa)=>(x.2.1:Int).natAbs⟩
def E70:=E69.a AL<|Fct.p (KP [0,2,3,4,5] [7,10,16,27]) (λ⟨n,_⟩=>lv [(5,Cm n)]) E69.2 func197 (by
 rintro⟨(n:Int),_⟩ hp;refine ho (let ar:=(⟨#[45]⟩:ByteArray);let M_:=(10:Int)≠(0:Int);let H_:=(⟨#[]⟩:ByteArray);let Z_:=Value.string H_=Value.string H_;.br (n==0) (.lf AL ((⟨#[48]⟩:ByteArray),())) (lpx (Cm n) (H_,(n,())) λ(y2:aa) bk2=>let ax:=y2.2.1.tdiv (10:Int);let R_:=wr ((48:Int)+y2.2.1.tmod (10:Int));let J_:=wr ((48:Int)+wr ((0:Int)-y2.2.1.tmod (10:Int)));.br (y2.2.1 != 0) (.ob M_<|.br (decide (y2.2.1.tmod (10:Int)<(0:Int))) (.ob (True)<|.ob (sameSize (List.foldl (λr n=>r.push (UInt8.ofNat n.toNat)) ByteArray.empty [IntKind.u8.wrap J_]) y2.1)<|.ob M_<|.ob (Value.int IntKind.i64 n=Value.int IntKind.i64 n)<|.ob Z_<|.ob (bk2 (List.foldl (λr n=>r.push (UInt8.ofNat n.toNat)) ByteArray.empty [IntKind.u8.wrap J_]++y2.1,(wr ax,())))<|.ok) (.ob (True)<|.ob (sameSize (List.foldl (λr n=>r.push (UInt8.ofNat n.toNat)) ByteArray.empty [IntKind.u8.wrap R_]) y2.1)<|.ob M_<|.ob (Value.int IntKind.i64 n=Value.int IntKind.i64 n)<|.ob Z_<|.ob (bk2 (List.foldl (λr n=>r.push (UInt8.ofNat n.toNat)) ByteArray.empty [IntKind.u8.wrap R_]++y2.1,(wr ax,())))<|.ok)) (.br (decide (n<0)) (.ob (sameSize ar y2.1)<|.lf AL (ar++y2.1,())) (.lf AL (y2.1,()))))) ?_;refine Aa (λh1=>lfY ?_) λh1=>Aq ?_ λ(y2:aa) i2=>Aa (λh3=>Ac ?_ λ_=>Aa (λh5=>Ac trivial λ_=>Ac ?_ λ_=>Ac ?_ λ_=>Ac rfl λ_=>Ac rfl λ_=>Ac ?_ λ_=>trivial) λh5=>Ac trivial λ_=>Ac ?_ λ_=>Ac ?_ λ_=>Ac rfl λ_=>Ac rfl λ_=>Ac ?_ λ_=>trivial) λh3=>Aa (λh12=>Ac ?_ λ_=>lfY ?_) λh12=>lfY ?_;all_goals try (have hk:=Nat.mod_lt y2.2.1.natAbs (show 0<10 from o_);have ht:=AfT y2.2.1)
 all_goals (try have hv:=AfO y2.2.1)<;>(try simp only[AA] at *)<;>(try simp only[std,Nat.reduceAdd] at *)<;>(first|trivial|omega|skip)<;>(try obtain⟨a1,a2,a3,a4,a5⟩:=i2)<;>(first|trivial|omega|skip)<;>(try simp only[h5,aC,aP] at ht)<;>(try rw[F_ o_] at ht)<;>(try rw[Aw (n:=0-_) o_,show(0:Int)-y2.2.1.tmod 10=((y2.2.1.natAbs % 10:Nat):Int) from o_,Anr hk,ZH hk] at *)<;>(try rw[ht,Anr hk,ZH hk] at *)<;>(try rw[F_ h3] at a4)<;>(try have e1:IntKind.i64.wrap (y2.2.1.tdiv 10)=y2.2.1.tdiv 10:=Aw o_;rw[e1])
 ·rw[h1,AcE]
 ·unfold sameSize;rw[show ByteArray.size ⟨#[UInt8.ofNat (48+y2.2.1.natAbs % 10)]⟩=1 from rfl];omega
 ·rw[Sb o_] at a5;rw[hv,aN,show ByteArray.size ⟨#[UInt8.ofNat (48+y2.2.1.natAbs % 10)]⟩=1 from rfl];exact⟨⟨h1,o_,o_,by split<;>omega,a5⟩,o_⟩
 ·unfold sameSize;rw[show ByteArray.size ⟨#[UInt8.ofNat (48+y2.2.1.natAbs % 10)]⟩=1 from rfl];omega
 ·rw[Sb o_] at a5;have hv':((y2.2.1.natAbs:Nat):Int)=y2.2.1.natAbs:=rfl;rw[hv,aN,show ByteArray.size ⟨#[UInt8.ofNat (48+y2.2.1.natAbs % 10)]⟩=1 from rfl];exact⟨⟨h1,o_,o_,by split<;>omega,a5⟩,o_⟩
 ·unfold sameSize;rw[show ByteArray.size ⟨#[45]⟩=1 from rfl];rw[G_ h3] at a4;omega
 ·rw[h3] at a5;rw[Afu h12,<-a5];rfl
 ·rw[h3] at a5;rw[Ae8 o_,<-a5];rfl)
def Q5 (x:Int):0<=bits .and .i64 x 255/\bits .and .i64 x 255<=255:=by
 have h:(BitVec.ofInt 64 x &&& BitVec.ofInt 64 255).toNat<=255:=by rw[BitVec.toNat_and];exact Nat.and_le_right
 have e:bits .and .i64 x 255=((BitVec.ofInt 64 x &&& BitVec.ofInt 64 255).toNat:Int):=by show IntKind.i64.wrap ((BitVec.ofInt 64 x &&& BitVec.ofInt 64 255).toNat:Int)=_;exact A_ o_ o_
 rw[e];omega
open Go.RowKit in
set_option maxHeartbeats 2000000 in
def Aay (g n cap:Nat) (i:Nat) (h:Int) (ad:Option Addr) (w:World) (hi1:i<=9223372036854775807) (hn:n<=1000000000000000000)
 (hx0:w.cell? ⟨g,0,none⟩=some (.slice ad n cap)) (hx1:w.cell? ⟨g,1,none⟩=some (.int .i64 i)) (hx2:w.cell? ⟨g,2,none⟩=some (.int .i64 h))
 (f1:w.frozen? ⟨g,1,none⟩=false) (f2:w.frozen? ⟨g,2,none⟩=false)
 (hb:i<n->∃ gb ob z,ad=some ⟨gb,ob,none⟩/\gb≠g/\w.cell? ⟨gb,ob+i,none⟩=some (.int .u8 z)) :
 Calls Tryz.prog 83 #[.pointer (some ⟨g,0,none⟩)] w λe w'=>∃ (x:Int) (i':Nat) (h':Int) (q:Nat),e=.returned (.int .i64 x)/\0<=x/\x<=255/\i'<=9223372036854775807/\((∃ k,h'=wrap64 k) /\
  (w'=((w.setCell ⟨g,2,none⟩ (.int .i64 h')).drewN q).setCell ⟨g,1,none⟩ (.int .i64 i')\/(i'=i/\∃ q',w'=((w.setCell ⟨g,2,none⟩ (.int .i64 h')).drewN q').drewN q))):=by
 go_enter func83,Tryz.ntmps83
 go_wp2
 go_quiet (fail)
 go_wp2
 go_quiet (fail)
 go_wp2
 ·have hlt:i<n:=o_
  obtain⟨gb,ob,z,rfl,hne,hz⟩:=hb hlt;clear hb;have hz':(w.setCell ⟨g,2,none⟩ (Value.int IntKind.i64 (IntKind.i64.wrap (IntKind.i64.wrap (h*6364136223846793005)+1442695040888963407)))).cell? ⟨gb,ob+i,none⟩=some (.int .u8 z):=by rw[World.cell?_setCell_other];exact hz;simp
  go_quiet (fail)
  go_wp2
  go_ret
  exact⟨_,i+1,_,_,rfl,(Q5 _).1,(Q5 _).2,o_,⟨_,rfl⟩,.inl rfl⟩
 ·go_ret
  exact⟨_,i,_,_,rfl,(Q5 _).1,(Q5 _).2,o_,⟨_,rfl⟩,.inr ⟨rfl,_,rfl⟩⟩
open Go.RowKit in
def AdY (k:Int) : -9223372036854775808<=wrap64 k/\wrap64 k<=9223372036854775807:=by
 unfold wrap64;omega
def Wg {w:World} {g j:Nat} {r:Array Value} {e:TypeId} {v:Value} (h:w.heap[g]? = some (.cells r e (0,0))):(w.setCell ⟨g,j,none⟩ v).heap[g]? = some (.cells (r.setIfInBounds j v) e (0,0))/\(∀ b,b≠g->(w.setCell ⟨g,j,none⟩ v).heap[b]? = w.heap[b]?)/\(w.setCell ⟨g,j,none⟩ v).heap.size=w.heap.size:=by
 refine⟨?_,λb hb=>?_,?_⟩
 ·simp[World.setCell,Array.getElem?_modify,h]
 ·simp[World.setCell,Array.getElem?_modify,Ne.symm hb]
 ·simp[World.setCell]
abbrev Xq:Xct:=⟨[.u],[.el .int],λ(x:W_)=>True,λ(x:W_) (y:E_)=>0<=y.1/\y.1<=255⟩
open Go.RowKit in
def AhO:Xq.ok Tryz.prog 83:=by
 rintro⟨u,⟨⟩⟩ _;intro w vs G hB hA;obtain⟨v0,hv0,g,rfl,hg⟩:=hA.tm 0 .cur rfl;have hvs:vs = #[.pointer (some ⟨g,0,none⟩)]:=by
  apply Array.ext
  ·rw[hA.sz];rfl
  ·intro i h1 h2
   match i,h1,h2 with
   | 0,h1,h2=>rw[Array.getElem?_eq_getElem h1] at hv0;injection hv0
   | i+1,h1,h2=>exact absurd (show i+1<1 from h2) o_
 subst hvs;obtain⟨xs,b,i,h,ty,hh,hb,hl,hi0,hi1,hh0,hh1⟩:=hA.cr g hg;obtain⟨a,cap,rfl,hcap,hrow⟩:=hb;obtain⟨i,rfl⟩:∃ k:Nat,i=k:=⟨i.toNat,o_⟩;have c0:∀ j,w.cell? ⟨g,j,none⟩=(#[Value.slice a xs.length cap,.int .i64 (i:Int),.int .i64 h]:Array Value)[j]?:=λj=>by simp[World.cell?,hh]
 have fz:∀ j,w.frozen? ⟨g,j,none⟩=false:=λj=>by simp[World.frozen?,hh]
 refine(Aay g xs.length cap i h a w o_ hl (c0 0) (c0 1) (c0 2) (fz 1) (fz 2) λhlt=>?_).mono ?_
 ·rcases hrow with h0|⟨gb,ob,row,e,fr,rfl,hs,hbk,hc⟩
  ·omega
  ·obtain⟨u,hu,hr⟩:=hc i hlt 0 (by decide);have e0:cell .u8 xs i 0=(enc .u8 xs[i]).getD 0 .nl:=Io (t:=.u8) (xs:=xs) (by simp[hlt]) 0;have hr:TR w (src G none) (fcC (cell .u8 xs i 0)) u:=hr;rw[e0] at hr;obtain⟨rfl,_⟩:=hr;refine⟨gb,ob,xs[i],rfl,λe=>?_,?_⟩
   ·subst e;rw[show G.ow gb=.free from hs] at hg;cases hg
   ·have:ob+i*Ty.u8.width+0=ob+i:=by show ob+i*1+0=ob+i;omega
    rw[this] at hu;simp[World.cell?,hbk,hu]
 ·rintro e w' ⟨x,i',h',q,rfl,hx0,hx1,hi',⟨k,rfl⟩,hw⟩;have hk:=AdY k;obtain⟨s1,s2,s3⟩:=Wg (j:=2) (v:=.int .i64 (wrap64 k)) hh;have fin:Onward w w'/\(∀ b,b≠g->w'.heap[b]? = w.heap[b]?)/\CurStep w w' g:=by
   rcases hw with rfl|⟨rfl,q',rfl⟩
   ·obtain⟨t1,t2,t3⟩:=Wg (w:=(w.setCell ⟨g,2,none⟩ (.int .i64 (wrap64 k))).drewN q) (j:=1) (v:=.int .i64 (i':Int)) s1;refine⟨⟨rfl,rfl,⟨rfl,DrLe.add _ _⟩,?_⟩,λb hb=>(t2 b hb).trans (s2 b hb),?_⟩
    ·rw[t3];exact Nat.le_of_eq s3.symm
    ·exact⟨_,_,_,i',_,_,hh,t1,o_,o_,hk.1,hk.2⟩
   ·refine⟨⟨rfl,rfl,⟨rfl,DrLe.trans (DrLe.add _ _) (DrLe.add _ _)⟩,Nat.le_of_eq s3.symm⟩,λb hb=>s2 b hb,?_⟩;exact⟨_,_,_,i',_,_,hh,s1,o_,o_,hk.1,hk.2⟩
  obtain⟨f1,f2,f3⟩:=fin;refine⟨_,_,⟨(x,()),⟨hx0,hx1⟩,rfl⟩,rfl,f1,λb hb=>f2 b λe=>?_,λb hb=>?_,λ_ _=>False,by simp,by simp,?_,?_,?_⟩
  ·subst e;rw[hg] at hb;cases hb
  ·by_cases e:b=g
   ·subst e;exact f3
   ·exact(hA.cr b hb).same (f2 b e)
  ·exact⟨_,rfl,⟨rfl,rfl⟩,rfl⟩
  ·intro m T hm;cases hm
  ·intro b cs hb;cases hb
def Ab9 (x:Int):0<=bits .and .i64 x 1073741823/\bits .and .i64 x 1073741823<=1073741823:=by
 have h:(BitVec.ofInt 64 x &&& BitVec.ofInt 64 1073741823).toNat<=1073741823:=by rw[BitVec.toNat_and];exact Nat.and_le_right
 have e:bits .and .i64 x 1073741823=((BitVec.ofInt 64 x &&& BitVec.ofInt 64 1073741823).toNat:Int):=by show IntKind.i64.wrap ((BitVec.ofInt 64 x &&& BitVec.ofInt 64 1073741823).toNat:Int)=_;exact A_ o_ o_
 rw[e];omega
open Go.RowKit in
set_option maxRecDepth 100000 in
set_option maxHeartbeats 2000000 in
def AeK (n cap:Nat) (ad:Option Addr) (w:World) (hn:n<=1000000000000000000) (hb:∀ i,i<n->∃ gb ob z,ad=some ⟨gb,ob,none⟩/\w.cell? ⟨gb,ob+i,none⟩=some (.int .u8 z)) :
 Calls Tryz.prog 19 #[.slice ad n cap] w λe w'=>∃ (h:Int) (q:Nat),e=.returned (.pointer (some ⟨w.heap.size,0,none⟩))/\-9223372036854775808<=h/\h<=9223372036854775807/\w'=(w.drewN q).alloc (.cells #[.slice ad n cap,.int .i64 0,.int .i64 h] 98):=by
 go_enter func19,Tryz.ntmps19
 go_wp2
 go_loop [3,4] (λh i=>∃ (k:Nat) (x:Int),k<=4000/\i=.int .i64 k/\h=.int .i64 x/\-9223372036854775808<=x/\x<=9223372036854775807) (λ_ i=>4001-(intOf i).toNat)
 case atStart=>exact⟨0,_,o_,rfl,rfl,o_,o_⟩
 case round=>
  obtain⟨k,x,hk,rfl,rfl,hx0,hx1⟩:=hrel;by_cases h1:k<n
  ·by_cases h2:k<4000
   ·obtain⟨gb,ob,z,rfl,hz⟩:=hb k h1;clear hb
    go_wp2
    go_round
    case rel=>exact⟨k+1,_,o_,by go_num,rfl,Int.le_trans o_ (Ab9 _).1,Int.le_trans (Ab9 _).2 o_⟩
    case measure=>simp only[intOf];omega
   ·go_wp2
    go_ret
    exact⟨rfl,x,hx0,hx1,0,rfl⟩
  ·go_wp2
   go_ret
   exact⟨rfl,x,hx0,hx1,0,rfl⟩
open Go.RowKit in
def AjA:Ut Tryz.prog 19:=by
 intro w v S xs hv _ hl;obtain⟨a,cap,rfl,hcap,hrow⟩:=hv;refine(AeK xs.length cap a w hl λi hlt=>?_).mono ?_
 ·rcases hrow with h0|⟨gb,ob,row,e,fr,rfl,hs,hbk,hc⟩
  ·omega
  ·obtain⟨u,hu,hr⟩:=hc i hlt 0 (by decide);have e0:cell .u8 xs i 0=(enc .u8 xs[i]).getD 0 .nl:=Io (t:=.u8) (xs:=xs) (by simp[hlt]) 0;have hr:TR w S (fcC (cell .u8 xs i 0)) u:=hr;rw[e0] at hr;obtain⟨rfl,_⟩:=hr;refine⟨gb,ob,xs[i],rfl,?_⟩;have:ob+i*Ty.u8.width+0=ob+i:=by show ob+i*1+0=ob+i;omega
   rw[this] at hu;simp[World.cell?,hbk,hu]
 ·rintro e w' ⟨h,q,rfl,h0,h1,rfl⟩;refine⟨w.heap.size,h,98,rfl,⟨rfl,rfl,⟨rfl,DrLe.add _ _⟩,?_⟩,λb hb=>?_,Y_ _,?_,h0,h1⟩
  ·simp[World.alloc,World.drewN]
  ·simp[World.alloc,World.drewN,Array.getElem?_push,Nat.ne_of_lt hb]
  ·simp[World.alloc,World.drewN]
theorem k19_70:Ut Tryz.prog 19 :=
 AjA
def E71:=E70.N k19_70
def E72:=E71.X Xq<|AhO
def Aj8 {a n:Int} (h1:0<=a) (h3:0<n):0<=a.tmod n/\(a.tmod n<n\/a.tmod n=0):=⟨Int.tmod_nonneg n h1,.inl (Int.tmod_lt_of_pos a h3)⟩
def AlI {a b c:Int} (ha:0<=a/\a<=255) (hb:0<=b/\b<=255) (hc:0<=c/\c<=255):IntKind.i64.wrap (IntKind.i64.wrap (IntKind.i64.wrap (a*65536)+IntKind.i64.wrap (b*256))+c)=a*65536+b*256+c:=by
 rw[A_ (n:=a*65536) o_ o_,A_ (n:=b*256) o_ o_,A_ (n:=a*65536+b*256) o_ o_,A_ o_ o_]
abbrev Bc:Xct:=⟨[.u,.v (.el .int)],[.el .int],λ(x:az)=>True,λ(x:az) (y:E_)=>0<=y.1/\(y.1<x.2.1\/y.1=0)⟩
def E73:=E72.X Bc<|Xct.o (KP [0,1,4,5,6,7] [9,11]) E72.2 func42 (by
 rintro⟨(c:PUnit),(n:Int),_⟩ hp;refine ho (.br (decide (n<=0)) (.lx Bc ((0:Int),())) (.br (decide (n<=256)) (.dr Xq ((),()) λ(y3:E_)=>.ob (n≠(0:Int))<|.lx Bc (y3.1.tmod n,())) (.dr Xq ((),()) λ(y5:E_)=>.dr Xq ((),()) λ(y6:E_)=>.dr Xq ((),()) λ(y7:E_)=>.ob (n≠(0:Int))<|.lx Bc ((wr (wr (wr (y5.1*(65536:Int))+wr (y6.1*(256:Int)))+y7.1)).tmod n,())))) ?_;refine Aa (λh1=>lxY ?_) λh1=>Aa (λh2=>Bn trivial λ(y3:E_) i3=>Ac ?_ λ_=>lxY ?_) λh2=>Bn trivial λ(y5:E_) i5=>Bn trivial λ(y6:E_) i6=>Bn trivial λ(y7:E_) i7=>Ac ?_ λ_=>lxY ?_;all_goals
  try simp only[AA] at *
  try simp only[std,Nat.reduceAdd] at *
 ·simp
 ·omega
 ·exact Aj8 o_ o_
 ·omega
 ·rw[AlI i5 i6 i7];exact Aj8 o_ o_)
abbrev Fv:Xct:=⟨[.u,.v (.el .int)],[.el .bool],λ(x:az)=>True,λ(x:az) (y:U_)=>True⟩
def E74:=E73.X Fv<|Xct.o [0,1,4] E73.2 func81 (by
 rintro⟨(c:PUnit),(n:Int),_⟩ hp;refine ho (.dr Bc ((),n,()) λ(y1:E_)=>.lx Fv (y1.1==0,())) ?_;refine Bn trivial λ(y1:E_) i1=>lxY ?_<;>(try simp only[AA] at *)<;>(try simp only[std,Nat.reduceAdd] at *))
def Ae {α:Type} [Inhabited α] {l:List α} {i:Nat} (h:i<l.length):l.getD i default∈l:=by
 simp_all
abbrev Mm:Xct:=⟨[.u,.v (.sl .int)],[.el .int],λ(x:Unit×(List Int)×Unit)=>0<x.2.1.length/\x.2.1.length<=256,λ(x:Unit×(List Int)×Unit) (y:E_)=>y.1∈x.2.1⟩
def E75:=E74.X Mm<|Xct.o [0,1,4] E74.2 func46 (by
 rintro⟨(c:PUnit),(l:List Int),_⟩ hp;refine ho (.dr Bc ((),(↑(List.length l):Int),()) λ(y1:E_)=>.ob (0<=y1.1/\y1.1<(↑(List.length l):Int))<|.lx Mm (List.getD l y1.1.toNat default,())) ?_;refine Bn trivial λ(y1:E_) i1=>Ac ?_ λ_=>lxY ?_<;>(try simp only[AA] at *)<;>(try simp only[std,Nat.reduceAdd] at *)<;>(first|trivial|omega|skip)<;>(refine Ae ?_;omega))
abbrev Ga:Xct:=⟨[.u,.v (.sl .str)],[.el .str],λ(x:dq)=>0<x.2.1.length/\x.2.1.length<=256/\x.2.1.all (λs=>decide (s.size<=30))=true,λ(x:dq) (y:D_)=>y.1.size<=30/\(x.2.1.all (λs=>decide (s.size<=9))=true->y.1.size<=9)⟩
def E76:=E75.X Ga<|Xct.o [0,1,4] E75.2 func49 (by
 rintro⟨(c:PUnit),(l:List ByteArray),_⟩ hp;refine ho (.dr Bc ((),(↑(List.length l):Int),()) λ(y1:E_)=>.ob (0<=y1.1/\y1.1<(↑(List.length l):Int))<|.lx Ga (List.getD l y1.1.toNat default,())) ?_;refine Bn trivial λ(y1:E_) i1=>Ac ?_ λ_=>lxY ?_<;>(try simp only[AA] at *)<;>(try simp only[std,Nat.reduceAdd] at *)<;>(first|trivial|omega|skip)
 have hm:=Ae (i:=y1.fst.toNat) (l:=l) o_;exact⟨by simpa using aH.1 hp.2.2 _ hm,λq=>by simpa using aH.1 q _ hm⟩)
abbrev Alz:Fct:=⟨[.v (.sl .u8)],[.el .bool],λ(x:am)=>True,λ(x:am)=>(decide (1048576<x.1.length),())⟩
def E77:=E76.a Alz<|Fct.o [0,2] E76.2 func4 (by
 rintro⟨(l:List Int),_⟩ hp;exact hg (.lf Alz (decide ((↑(List.length l):Int)>1048576),())) (an_ @sameSize.eq_1<|@aN))
abbrev SL:Xct:=⟨[.u],[.el .str],λ(x:W_)=>True,λ(x:W_) (y:D_)=>y.1.size<=30⟩
def E78:=E77.X SL<|Xct.o [0,2] E77.2 func80 (by
 rintro⟨(c:PUnit),_⟩ hp;refine ho (.dr Ga ((),[(⟨#[104,111,109,101]⟩:ByteArray),(⟨#[99,100,110]⟩:ByteArray),(⟨#[101,118,105,108]⟩:ByteArray),(⟨#[104,111,109,101]⟩:ByteArray)],()) λ(y2:D_)=>.lx SL (y2.1,())) ?_;refine BA ?_ λo1 (y2:D_) i2=>lxY ?_<;>(first|trivial|(refine⟨?_,?_,?_⟩<;>decide)|skip)<;>(try simp only[AA] at *)<;>(try simp only[std,Nat.reduceAdd,sameSize,aN] at *)<;>(try simp(disch:=omega) only[A_,C_] at *)<;>(try simp(disch:=omega) only[G_,F_])<;>(first|trivial|omega|grind[A_,C_,B_,K_,I_,maxLen,sameSize,ByteArray.size_append]))
def E79:=E78.X SL<|Xct.o [0,2] E78.2 func92 (by
 rintro⟨(c:PUnit),_⟩ hp;refine ho (.dr Ga ((),[(⟨#[105,110,100,101,120]⟩:ByteArray),(⟨#[97,112,112]⟩:ByteArray),(⟨#[115,116,121,108,101]⟩:ByteArray),(⟨#[108,105,98]⟩:ByteArray),(⟨#[108,111,103,111]⟩:ByteArray),(⟨#[110,101,120,116]⟩:ByteArray),(⟨#[117,116,105,108]⟩:ByteArray)],()) λ(y2:D_)=>.lx SL (y2.1,())) ?_;refine BA ?_ λo1 (y2:D_) i2=>lxY ?_<;>(first|trivial|(refine⟨?_,?_,?_⟩<;>decide)|skip)<;>(try simp only[AA] at *)<;>(try simp only[std,Nat.reduceAdd,sameSize,aN] at *)<;>(try simp(disch:=omega) only[A_,C_] at *)<;>(try simp(disch:=omega) only[G_,F_])<;>(first|trivial|omega|grind[A_,C_,B_,K_,I_,maxLen,sameSize,ByteArray.size_append]))
abbrev SC:Xct:=⟨[.u],[.el .addr],λ(x:W_)=>True,λ(x:W_) (y:au)=>y.1.host.size<=30/\y.1.path.size<=30⟩
def E80:=E79.X SC<|Xct.o [0,2,3] E79.2 func48 (by
 rintro⟨(c:PUnit),_⟩ hp;refine ho (.dr SL ((),()) λ(y1:D_)=>.dr SL ((),()) λ(y2:D_)=>.lx SC (⟨y1.1,y2.1⟩,())) ?_;refine Bn trivial λ(y1:D_) i1=>Bn trivial λ(y2:D_) i2=>lxY ?_<;>(try simp only[AA] at *)<;>(try simp only[std,Nat.reduceAdd,sameSize,aN] at *)<;>(try simp(disch:=omega) only[A_,C_] at *)<;>(try simp(disch:=omega) only[G_,F_])<;>(first|trivial|omega|grind[A_,C_,B_,K_,I_,maxLen,sameSize,ByteArray.size_append]))
abbrev WF:Xct:=⟨[.u,.v (.el .int)],[.el .str],λ(x:az)=>0<=x.2.1/\x.2.1<=100,λ(x:az) (y:D_)=>y.1.size<=31*x.2.1+31⟩
abbrev D6 (c:Unit) (most:Int):LInv:=⟨[⟨.s,5,true,.el .str⟩,⟨.s,6,true,.el .int⟩],λ_ (x:aa)=>0<=x.2.1/\x.2.1<=most+1/\x.1.size+31*x.2.1<=31*most+31,λ(x:aa)=>x.2.1.toNat⟩
def E81:=E80.X WF<|Xct.p (KP [0,1,4,5,6] [12,16]) (λ⟨c,most,_⟩=>lv [(3,D6 c most)]) E80.2 func84 (by
 rintro⟨(c:PUnit),(most:Int),_⟩ hp;refine ho (let bS:=Value.int IntKind.i64 most;let bH:=(⟨#[97,100,100,32,98]⟩:ByteArray);let aW:=(⟨#[97,100,100,32,112]⟩:ByteArray);let aJ:=(⟨#[59]⟩:ByteArray);let cg:=(⟨#[108,111,111,107,32,98]⟩:ByteArray);let bK:=(⟨#[115,97,121,32,104,105]⟩:ByteArray);let aK:=(⟨#[108,111,111,107,32,112]⟩:ByteArray);let ax:=(⟨#[99,111,117,110,116,32,112]⟩:ByteArray);let ar:=(⟨#[119,114,105,116,101,32,91,98,93]⟩:ByteArray);let Z_:=(⟨#[]⟩:ByteArray);let R_:=(⟨#[99,111,117,110,116,32,115,99,114,105,112,116]⟩:ByteArray);let M_:=(⟨#[119,114,105,116,101,32,91,112,93,120,91,47,112,93]⟩:ByteArray);let J_:=(⟨#[119,114,105,116,101,32,91,105,109,103,32,115,114,99,61,108,111,103,111,93]⟩:ByteArray);let H_:=(⟨#[119,114,105,116,101,32,91,108,105,110,107,32,104,114,101,102,61,115,116,121,108,101,93]⟩:ByteArray);.dr Bc ((),most,()) λ(y1:E_)=>lpx (D6 c most) (Z_,(wr ((1:Int)+y1.1),())) λ(y2:aa) bk2=>.br (decide (y2.2.1>0)) (.br (!y2.1.toList==Z_.toList) (.ob (sameSize y2.1 aJ)<|.dr Ga ((),[bK,ax,R_,aK,cg,bH,aW,M_,J_,H_,ar],()) λ(y7:D_)=>.ob (sameSize (y2.1++aJ) y7.1)<|.re bS<|.re (Value.string Z_)<|.bk (bk2 (y2.1++aJ++y7.1,(wr (y2.2.1-(1:Int)),())))) (.dr Ga ((),[bK,ax,R_,aK,cg,bH,aW,M_,J_,H_,ar],()) λ(y11:D_)=>.ob (sameSize y2.1 y11.1)<|.re bS<|.re (Value.string Z_)<|.bk (bk2 (y2.1++y11.1,(wr (y2.2.1-(1:Int)),()))))) (.lx WF (y2.1,()))) ?_;refine Bn trivial λ(y1:E_) i1=>Aq ?_ λ(y2:aa) i2=>Aa (λh3=>Aa (λh4=>Ac ?_ λ_=>BA ?_ λo6 (y7:D_) i7=>Ac ?_ λ_=>An<|An<|AR ?_) λh4=>BA ?_ λo10 (y11:D_) i11=>Ac ?_ λ_=>An<|An<|AR ?_) (λh3=>lxY ?_)<;>(first|trivial|(refine⟨?_,?_,?_⟩<;>decide)|skip)<;>(try simp only[AA] at *)<;>(try simp only[std,Nat.reduceAdd,sameSize,aN] at *)<;>(try simp(disch:=omega) only[A_,C_] at *)<;>(try simp(disch:=omega) only[G_,F_])<;>(first|trivial|omega|grind[A_,C_,B_,K_,I_,maxLen,sameSize,ByteArray.size_append]))
abbrev VZ:Xct:=⟨[.u],[.el .str],λ(x:W_)=>True,λ(x:W_) (y:D_)=>y.1.size<=250⟩
abbrev D3 (c:Unit):LInv:=⟨[⟨.s,3,true,.el .str⟩,⟨.s,4,true,.el .int⟩],λ_ (x:aa)=>0<=x.2.1/\x.2.1<=3/\x.1.size+70*x.2.1<=250,λ(x:aa)=>x.2.1.toNat⟩
def E82:=E81.X VZ<|Xct.p (KP [0,2,3,4] [8]) (λ⟨c,_⟩=>lv [(3,D3 c)]) E81.2 func170 (by
 rintro⟨(c:PUnit),_⟩ hp;refine ho (.dr Bc ((),(4:Int),()) λ(y1:E_)=>lpx (D3 c) ((⟨#[]⟩:ByteArray),(y1.1,())) λ(y2:aa) bk2=>.br (decide (y2.2.1>0)) (.dr Ga ((),[(⟨#[112]⟩:ByteArray),(⟨#[98]⟩:ByteArray),(⟨#[112,97,103,101]⟩:ByteArray),(⟨#[80]⟩:ByteArray),(⟨#[]⟩:ByteArray)],()) λ(y5:D_)=>.ob (sameSize y2.1 y5.1)<|.ob (sameSize (y2.1++y5.1) (⟨#[58]⟩:ByteArray))<|.dr Ga ((),[(⟨#[49]⟩:ByteArray),(⟨#[55]⟩:ByteArray),(⟨#[57,57,57]⟩:ByteArray),(⟨#[49,48,48,48]⟩:ByteArray),(⟨#[48]⟩:ByteArray),(⟨#[120]⟩:ByteArray)],()) λ(y9:D_)=>.ob (sameSize (y2.1++y5.1++(⟨#[58]⟩:ByteArray)) y9.1)<|.ob (sameSize (y2.1++y5.1++(⟨#[58]⟩:ByteArray)++y9.1) (⟨#[59]⟩:ByteArray))<|.re (Value.string (⟨#[]⟩:ByteArray))<|.bk (bk2 (y2.1++y5.1++(⟨#[58]⟩:ByteArray)++y9.1++(⟨#[59]⟩:ByteArray),(wr (y2.2.1-(1:Int)),())))) (.lx VZ (y2.1,()))) ?_;refine Bn trivial λ(y1:E_) i1=>Aq ?_ λ(y2:aa) i2=>Aa (λh3=>BA ?_ λo4 (y5:D_) i5=>Ac ?_ λ_=>Ac ?_ λ_=>BA ?_ λo8 (y9:D_) i9=>Ac ?_ λ_=>Ac ?_ λ_=>An<|AR ?_) (λh3=>lxY ?_)<;>(first|trivial|(refine⟨?_,?_,?_⟩<;>decide)|skip)<;>(try simp only[AA] at *)<;>(try simp only[std,Nat.reduceAdd,sameSize,aN] at *)<;>(try simp(disch:=omega) only[A_,C_] at *)<;>(try simp(disch:=omega) only[G_,F_])<;>(first|trivial|omega|grind[A_,C_,B_,K_,I_,maxLen,sameSize,ByteArray.size_append]))
abbrev QO:Xct:=⟨[.u],[.el .str],λ(x:W_)=>True,λ(x:W_) (y:D_)=>y.1.size<=40⟩
def E83:=E82.X QO<|Xct.o (KP [0,2,4] [5,11,17,28,34,40]) E82.2 func205 (by
 rintro⟨(c:PUnit),_⟩ hp;refine ho (let cg:=(⟨#[98]⟩:ByteArray);let bK:=(⟨#[112]⟩:ByteArray);let aK:=(⟨#[97,112,112]⟩:ByteArray);let ax:=(⟨#[112,97,103,101]⟩:ByteArray);let ar:=(⟨#[47]⟩:ByteArray);let Z_:=(⟨#[115,99,114,105,112,116]⟩:ByteArray);let R_:=(⟨#[105,109,103,32,115,114,99,61]⟩:ByteArray);let M_:=(⟨#[108,105,110,107,32,104,114,101,102,61]⟩:ByteArray);let J_:=(⟨#[32,107,105,110,100,61]⟩:ByteArray);let H_:=(⟨#[115,99,114,105,112,116,32,115,114,99,61]⟩:ByteArray);.dr Bc ((),(8:Int),()) λ(y1:E_)=>.br (y1.1==0) (.dr Ga ((),[bK,cg,Z_,ax],()) λ(y4:D_)=>.ob (sameSize ar y4.1)<|.lx QO (ar++y4.1,())) (.br (y1.1==1) (.dr Ga ((),[aK,(⟨#[99,100,110,47,108,105,98]⟩:ByteArray),(⟨#[108,105,98]⟩:ByteArray),(⟨#[101,118,105,108,47,97,112,112]⟩:ByteArray)],()) λ(y8:D_)=>.ob (sameSize H_ y8.1)<|.lx QO (H_++y8.1,())) (.br (y1.1==2) (.dr Ga ((),[aK,(⟨#[117,116,105,108]⟩:ByteArray)],()) λ(y12:D_)=>.ob (sameSize H_ y12.1)<|.ob (sameSize (H_++y12.1) J_)<|.dr Ga ((),[(⟨#[100,101,102,101,114]⟩:ByteArray),(⟨#[109,111,100,117,108,101]⟩:ByteArray)],()) λ(y16:D_)=>.ob (sameSize (H_++y12.1++J_) y16.1)<|.lx QO (H_++y12.1++J_++y16.1,())) (.br (y1.1==3) (.dr Ga ((),[(⟨#[108,111,103,111]⟩:ByteArray),(⟨#[99,100,110,47,108,111,103,111]⟩:ByteArray)],()) λ(y20:D_)=>.ob (sameSize R_ y20.1)<|.lx QO (R_++y20.1,())) (.br (y1.1==4) (.dr Ga ((),[(⟨#[115,116,121,108,101]⟩:ByteArray),(⟨#[99,100,110,47,115,116,121,108,101]⟩:ByteArray)],()) λ(y24:D_)=>.ob (sameSize M_ y24.1)<|.lx QO (M_++y24.1,())) (.br (y1.1==5) (.dr Ga ((),[(⟨#[112,32,97,61,98]⟩:ByteArray),(⟨#[]⟩:ByteArray),(⟨#[80]⟩:ByteArray),(⟨#[112,32,97]⟩:ByteArray),(⟨#[112,32,97,61]⟩:ByteArray),(⟨#[112,32,32,97,61,98]⟩:ByteArray),(⟨#[112,32,97,61,98,32,97,61,99]⟩:ByteArray),(⟨#[112,32,97,61,98,32,98,61,99,32,99,61,100,32,100,61,101,32,101,61,102]⟩:ByteArray),ar,(⟨#[112,32,97,61,98,61,99]⟩:ByteArray)],()) λ(y28:D_)=>.lx QO (y28.1,())) (.dr Ga ((),[bK,cg,ax,Z_],()) λ(y30:D_)=>.lx QO (y30.1,())))))))) ?_;refine Bn trivial λ(y1:E_) i1=>Aa (λh2=>BA ?_ λo3 (y4:D_) i4=>Ac ?_ λ_=>lxY ?_) (λh2=>Aa (λh6=>BA ?_ λo7 (y8:D_) i8=>Ac ?_ λ_=>lxY ?_) λh6=>Aa (λh10=>BA ?_ λo11 (y12:D_) i12=>Ac ?_ λ_=>Ac ?_ λ_=>BA ?_ λo15 (y16:D_) i16=>Ac ?_ λ_=>lxY ?_) λh10=>Aa (λh18=>BA ?_ λo19 (y20:D_) i20=>Ac ?_ λ_=>lxY ?_) λh18=>Aa (λh22=>BA ?_ λo23 (y24:D_) i24=>Ac ?_ λ_=>lxY ?_) λh22=>Aa (λh26=>BA ?_ λo27 (y28:D_) i28=>lxY ?_) λh26=>BA ?_ λo29 (y30:D_) i30=>lxY ?_)<;>(first|trivial|(refine⟨?_,?_,?_⟩<;>decide)|skip)<;>(try have r8:=i8.2 (by decide))<;>(try have r12:=i12.2 (by decide))<;>(try have r16:=i16.2 (by decide))<;>(try simp only[AA] at *)<;>(try simp only[std,Nat.reduceAdd,sameSize,aN] at *)<;>(try simp(disch:=omega) only[A_,C_] at *)<;>(try simp(disch:=omega) only[G_,F_])<;>(first|trivial|omega|grind[A_,C_,B_,K_,I_,maxLen,sameSize,ByteArray.size_append]))
abbrev RR:Xct:=⟨[.u,.v (.el .int)],[.el .str],λ(x:az)=>0<=x.2.1/\x.2.1<=1000,λ(x:az) (y:D_)=>y.1.size<=42*x.2.1+40⟩
abbrev Eb (c:Unit) (most:Int):LInv:=⟨[⟨.s,5,true,.el .str⟩,⟨.s,6,true,.el .int⟩],λ_ (x:aa)=>0<=x.2.1/\x.2.1<=most/\x.1.size+42*x.2.1<=42*most,λ(x:aa)=>x.2.1.toNat⟩
def E84:=E83.X RR<|Xct.p (KP [0,1,4,5,6] [12,16,29]) (λ⟨c,most,_⟩=>lv [(3,Eb c most)]) E83.2 func171 (by
 rintro⟨(c:PUnit),(most:Int),_⟩ hp;refine ho (let R_:=(⟨#[62]⟩:ByteArray);let M_:=Value.int IntKind.i64 most;let J_:=(⟨#[]⟩:ByteArray);let H_:=(⟨#[60]⟩:ByteArray);.dr Bc ((),w1 most,()) λ(y1:E_)=>lpx (Eb c most) (J_,(y1.1,())) λ(y2:aa) bk2=>.br (decide (y2.2.1>0)) (.dr Fv ((),(3:Int),()) λ(y4:U_)=>.br (y4.1) (.dr Ga ((),[(⟨#[104,105]⟩:ByteArray),(⟨#[97,32,98]⟩:ByteArray),(⟨#[99,111,117,110,116]⟩:ByteArray),(⟨#[120,62,121]⟩:ByteArray),J_],()) λ(y7:D_)=>.ob (sameSize y2.1 y7.1)<|.re M_<|.re (Value.string J_)<|.bk (bk2 (y2.1++y7.1,(wr (y2.2.1-(1:Int)),())))) (.ob (sameSize y2.1 H_)<|.dr QO ((),()) λ(y11:D_)=>.ob (sameSize (y2.1++H_) y11.1)<|.ob (sameSize (y2.1++H_++y11.1) R_)<|.re M_<|.re (Value.string J_)<|.bk (bk2 (y2.1++H_++y11.1++R_,(wr (y2.2.1-(1:Int)),()))))) (.dr Fv ((),(6:Int),()) λ(y15:U_)=>.br (y15.1) (.dr Ga ((),[(⟨#[60,112]⟩:ByteArray),H_,(⟨#[101,110,100]⟩:ByteArray)],()) λ(y18:D_)=>.ob (sameSize y2.1 y18.1)<|.lx RR (y2.1++y18.1,())) (.lx RR (y2.1,())))) ?_;refine Bn trivial λ(y1:E_) i1=>Aq ?_ λ(y2:aa) i2=>Aa (λh3=>Bn trivial λ(y4:U_) i4=>Aa (λh5=>BA ?_ λo6 (y7:D_) i7=>Ac ?_ λ_=>An<|An<|AR ?_) λh5=>Ac ?_ λ_=>Bn trivial λ(y11:D_) i11=>Ac ?_ λ_=>Ac ?_ λ_=>An<|An<|AR ?_) (λh3=>Bn trivial λ(y15:U_) i15=>Aa (λh16=>BA ?_ λo17 (y18:D_) i18=>Ac ?_ λ_=>lxY ?_) λh16=>lxY ?_)<;>(first|trivial|(refine⟨?_,?_,?_⟩<;>decide)|skip)<;>(try simp only[AA] at *)<;>(try simp only[std,Nat.reduceAdd,sameSize,aN] at *)<;>(try simp(disch:=omega) only[A_,C_] at *)<;>(try simp(disch:=omega) only[G_,F_])<;>(first|trivial|omega|grind[A_,C_,B_,K_,I_,maxLen,sameSize,ByteArray.size_append]))
abbrev HG:Xct:=⟨[.u,.v (.el .int)],[.el .str],λ(x:az)=>True,λ(x:az) (y:D_)=>y.1.size<=400⟩
def E85:=E84.X HG<|Xct.o (KP [0,1,4,5] [6,10,14,23]) E84.2 func129 (by
 rintro⟨(c:PUnit),(k:Int),_⟩ hp;refine ho (.br (k==2) (.dr WF ((),(3:Int),()) λ(y3:D_)=>.lx HG (y3.1,())) (.br (k==3) (.dr VZ ((),()) λ(y5:D_)=>.lx HG (y5.1,())) (.br (k==5) (.dr Ga ((),[(⟨#[]⟩:ByteArray),(⟨#[105,109,112,111,114,116,32,117,116,105,108,59]⟩:ByteArray),(⟨#[105,109,112,111,114,116,32,108,105,98,59]⟩:ByteArray),(⟨#[105,109,112,111,114,116,32,99,100,110,47,108,105,98,59]⟩:ByteArray),(⟨#[105,109,112,111,114,116,32,97,112,112,59,105,109,112,111,114,116,32,117,116,105,108,59]⟩:ByteArray)],()) λ(y8:D_)=>.dr Ga ((),[(⟨#[115,97,121,32,109]⟩:ByteArray),(⟨#[99,111,117,110,116,32,112]⟩:ByteArray),(⟨#[97,100,100,32,98]⟩:ByteArray),(⟨#[108,111,111,107,32,112]⟩:ByteArray)],()) λ(y10:D_)=>.ob (sameSize y8.1 y10.1)<|.lx HG (y8.1++y10.1,())) (.br (k==4) (.lx HG ((⟨#[112,105,120,101,108,115]⟩:ByteArray),())) (.dr RR ((),(8:Int),()) λ(y14:D_)=>.lx HG (y14.1,())))))) ?_;refine Aa (λh1=>BA ?_ λo2 (y3:D_) i3=>lxY ?_) λh1=>Aa (λh4=>Bn trivial λ(y5:D_) i5=>lxY ?_) λh4=>Aa (λh6=>BA ?_ λo7 (y8:D_) i8=>BA ?_ λo9 (y10:D_) i10=>Ac ?_ λ_=>lxY ?_) λh6=>Aa (λh12=>lxY ?_) λh12=>BA ?_ λo13 (y14:D_) i14=>lxY ?_;all_goals first|trivial|(refine⟨?_,?_,?_⟩<;>decide)|skip
 all_goals (try simp only[AA] at *)<;>(try simp only[std,Nat.reduceAdd,sameSize,aN] at *)<;>(try simp(disch:=omega) only[A_,C_] at *)<;>(try simp(disch:=omega) only[G_,F_])<;>(first|trivial|omega|grind[A_,C_,B_,K_,I_,maxLen,sameSize,ByteArray.size_append]))
def AX {s:ByteArray} (h:isName s=true):s.size<=8:=by
 simp only[isName,S_,av] at h;omega
def words9:ByteArray->List ByteArray->ByteArray
 | w,[]=>w
 | w,x::l=>words9 (w++⟨#[32]⟩++x) l
theorem dA {w:ByteArray} {l:List ByteArray} {i:Nat} (h:i<l.length):words9 w (l.drop i)=words9 (w++⟨#[32]⟩++l.getD i default) (l.drop (i+1)):=by rw[B_ h];rfl
theorem dh {w:ByteArray} {l:List ByteArray} {i:Nat} (h:l.length<=i):words9 w (l.drop i)=w:=by rw[bQ h];rfl
def GY:∀ (l:List ByteArray) (w:ByteArray),l.all isName=true->(words9 w l).size<=w.size+9*l.length:=by
 intro l
 induction l with
 | nil=>intro w _;simp[words9]
 | cons x l ih=>
  intro w h;simp only[List.all_cons,S_] at h;have h1:=AX h.1;have h2:=ih (w++⟨#[32]⟩++x) h.2;simp only[words9,aq];rw[aN,aN,show ByteArray.size ⟨#[32]⟩=1 from rfl] at h2;omega
abbrev NM:Fct:=⟨[.v (.el .str),.v (.sl .str)],[.el .str],λ(x:gB)=>x.1.size<=100/\x.2.1.length<=4/\x.2.1.all isName=true,λ(x:gB)=>(words9 x.1 x.2.1,())⟩
abbrev Dz (w:ByteArray) (l:(List ByteArray)):LInv:=⟨[⟨.s,0,true,.el .str⟩,⟨.s,5,true,.el .int⟩],λ_ (x:aa)=>0<=x.2.1/\x.2.1<=l.length/\x.1.size<=100+9*x.2.1/\words9 x.1 (l.drop x.2.1.toNat)=words9 w l,λ(x:aa)=>l.length-x.2.1.toNat⟩
def E86:=E85.a NM<|Fct.p (KP [0,1,4,5] [9]) (λ⟨w,l,_⟩=>lv [(2,Dz w l)]) E85.2 func86 (by
 rintro⟨(w:ByteArray),(l:List ByteArray),_⟩ hp;refine ho (lpx (Dz w l) (w,((0:Int),())) λ(y1:aa) bk1=>.br (decide (y1.2.1<(l.length:Int))) (.ob (sameSize y1.1 (⟨#[32]⟩:ByteArray))<|.ob (inB y1.2.1 l.length)<|.ob (sameSize (y1.1++(⟨#[32]⟩:ByteArray)) (l.getD y1.2.1.toNat default))<|.re (l)<|.re (Value.string (⟨#[]⟩:ByteArray))<|.bk (bk1 (y1.1++(⟨#[32]⟩:ByteArray)++l.getD y1.2.1.toNat default,(w1 y1.2.1,())))) (.lf NM (y1.1,()))) ?_;refine Aq ?_ λ(y1:aa) i1=>Aa (λh2=>Ac ?_ λ_=>Ac ?_ λ_=>Ac ?_ λ_=>An<|An<|AR ?_) (λh2=>lfY ?_)<;>have hg:∀ i,i<l.length->(l.getD i default).size<=8:=λi h=>AX (aH.1 hp.2.2 _ (Ae h))<;>(try simp only[AA] at *)<;>(try simp only[std,Nat.reduceAdd,dA,dh,sameSize,aN] at *)<;>(try simp(disch:=omega) only[A_,C_] at *)<;>(try simp(disch:=omega) only[G_,F_])<;>(first|trivial|omega|grind[A_,C_,I_,maxLen,dA,dh,sameSize,ByteArray.size_append]))
def formatPolicy (p:aQ):ByteArray:=if isPolicy p&&p.set_ then(if p.nonce=⟨#[]⟩ then words9 ⟨#[115,99,114,105,112,116]⟩ p.bt++⟨#[59]⟩++words9 ⟨#[115,116,121,108,101]⟩ p.styles++⟨#[59]⟩++words9 ⟨#[105,109,103]⟩ p.images else words9 ⟨#[115,99,114,105,112,116]⟩ p.bt++⟨#[59]⟩++words9 ⟨#[115,116,121,108,101]⟩ p.styles++⟨#[59]⟩++words9 ⟨#[105,109,103]⟩ p.images++⟨#[59,110,111,110,99,101,32]⟩++p.nonce) else⟨#[]⟩
def FW {p:aQ} (h:isPolicy p=true) (hs:p.set_=true):p.bt.all isName=true/\p.bt.length<=4/\p.styles.all isName=true/\p.styles.length<=4/\p.images.all isName=true/\p.images.length<=4/\p.nonce.size<=20:=by
 simp only[isPolicy,hs,aC,S_,db,av] at h;obtain⟨⟨⟨⟨a1,a2⟩,a3,a4⟩,a5,a6⟩,a7⟩:=h;refine⟨a1,a2,a3,a4,a5,a6,?_⟩;rcases a7 with h|h
 ·rw[h];exact Nat.zero_le _
 ·simp only[isValue,S_,av] at h;omega
def GF {l:List ByteArray} {w:ByteArray} (h:l.all isName=true) (hl:l.length<=4) (hw:w.size<=6):(words9 w l).size<=42:=by
 have:=GY l w h;omega
def BV (p:aQ):(formatPolicy p).size<=200:=by
 unfold formatPolicy;split
 ·rename_i h;simp only[S_] at h;obtain⟨a1,a2,a3,a4,a5,a6,a7⟩:=FW h.1 h.2;have b1:=GF (w:=⟨#[115,99,114,105,112,116]⟩) a1 a2 (by decide);have b2:=GF (w:=⟨#[115,116,121,108,101]⟩) a3 a4 (by decide);have b3:=GF (w:=⟨#[105,109,103]⟩) a5 a6 (by decide);split
  ·simp only[aN,show ByteArray.size ⟨#[59]⟩=1 from rfl];omega
  ·simp only[aN,show ByteArray.size ⟨#[59]⟩=1 from rfl,show ByteArray.size ⟨#[59,110,111,110,99,101,32]⟩=7 from rfl];omega
 ·exact Nat.zero_le _
abbrev AG:Fct:=⟨[.v (.el .bm)],[.el .str],λ(x:aS)=>AD x.1<=1099511627776,λ(x:aS)=>(formatPolicy x.1,())⟩
def E87:=E86.a AG<|Fct.o (KP [1,2,3] [11,27]) E86.2 func44 (by
 rintro⟨(p:aQ),_⟩ hp;refine ho (let R_:=(⟨#[]⟩:ByteArray);let M_:Out:=.lf AG (R_,());let J_:=(⟨#[59,110,111,110,99,101,32]⟩:ByteArray);let H_:=(⟨#[59]⟩:ByteArray);.cl CD (p,()) λz2=>.br (!z2.1) M_ (.br (!p.set_) M_ (.cl NM ((⟨#[115,99,114,105,112,116]⟩:ByteArray),p.bt,()) λz3=>.ob (sameSize z3.1 H_)<|.cl NM ((⟨#[115,116,121,108,101]⟩:ByteArray),p.styles,()) λz4=>.ob (sameSize (z3.1++H_) z4.1)<|.ob (sameSize (z3.1++H_++z4.1) H_)<|.cl NM ((⟨#[105,109,103]⟩:ByteArray),p.images,()) λz5=>.ob (sameSize (z3.1++H_++z4.1++H_) z5.1)<|.br (!p.nonce.toList==R_.toList) (.ob (sameSize (z3.1++H_++z4.1++H_++z5.1) J_)<|.ob (sameSize (z3.1++H_++z4.1++H_++z5.1++J_) p.nonce)<|.lf AG (z3.1++H_++z4.1++H_++z5.1++J_++p.nonce,())) (.lf AG (z3.1++H_++z4.1++H_++z5.1,()))))) ?_;repeat' (guard_target =~ Out.holds _ _;first|refine lfY ?_|refine Aa (λ_=>?_) λ_=>?_|refine Aj ?_ λ_=>?_|refine Ac ?_ λ_=>?_)
 all_goals (try simp only[AA] at *)<;>(try simp only[std,Nat.reduceAdd] at *)<;>(first|trivial|omega|skip)<;>(try have hA:isPolicy p=true:=‹_›;have hB:p.set_=true:=‹_›;obtain⟨a1,a2,a3,a4,a5,a6,a7⟩:=FW hA hB)<;>(try have b1:=GF (w:=⟨#[115,99,114,105,112,116]⟩) a1 a2 (by decide))<;>(try have b2:=GF (w:=⟨#[115,116,121,108,101]⟩) a3 a4 (by decide))<;>(try have b3:=GF (w:=⟨#[105,109,103]⟩) a5 a6 (by decide))<;>(try simp only[AA] at *)<;>(try simp only[std,Nat.reduceAdd,formatPolicy,sameSize,aN] at *)<;>(try simp(disch:=omega) only[A_,C_] at *)<;>(try simp(disch:=omega) only[G_,F_])<;>(first|trivial|omega|grind[A_,C_,B_,K_,I_,maxLen,formatPolicy,sameSize,ByteArray.size_append]))
def hosts9:List ByteArray:=[⟨#[104,111,109,101]⟩,⟨#[99,100,110]⟩,⟨#[101,118,105,108]⟩]
def S8 {i:Nat} (h:i<3):isName (hosts9.getD i default)=true:=by
 match i,h with
 | 0,_=>decide
 | 1,_=>decide
 | 2,_=>decide
abbrev NH:Xct:=⟨[.u],[.sl .str],λ(x:W_)=>True,λ(x:W_) (y:bJ)=>y.1.length<=3/\y.1.all isName=true⟩
abbrev Ds (c:Unit):LInv:=⟨[⟨.s,3,true,.sl .str⟩,⟨.s,9,true,.el .int⟩,⟨.s,7,true,.sl .str⟩],λ_ (x:fg)=>0<=x.2.1/\x.2.1<=3/\x.1.length<=x.2.1/\x.1.all isName=true/\x.2.2.1=hosts9,λ(x:fg)=>3-x.2.1.toNat⟩
def E88:=E87.X NH<|Xct.p (KP [0,2,3,5,7,8,9] [10,14]) (λ⟨c,_⟩=>lv [(3,Ds c)]) E87.2 func87 (by
 rintro⟨(c:PUnit),_⟩ hp;refine ho (lpx (Ds c) ([],((0:Int),([(⟨#[104,111,109,101]⟩:ByteArray),(⟨#[99,100,110]⟩:ByteArray),(⟨#[101,118,105,108]⟩:ByteArray)],()))) λ(y1:fg) bk1=>.br (decide (y1.2.1<3)) (.ix y1.2.1 y1.2.2.1.length<|.dr Fv ((),(2:Int),()) λ(y5:U_)=>.br (y5.1) (.ap (y1.1.length+[y1.2.2.1.getD y1.2.1.toNat default].length) 16<|.re (Value.int IntKind.i64 (3:Int))<|.bk (bk1 (y1.1++[y1.2.2.1.getD y1.2.1.toNat default],(w1 y1.2.1,(y1.2.2.1,()))))) (.re (Value.int IntKind.i64 (3:Int))<|.bk (bk1 (y1.1,(w1 y1.2.1,(y1.2.2.1,())))))) (.lx NH (y1.1,()))) ?_;refine Aq ?_ λ(y1:fg) i1=>Aa (λh2=>CW ?_ λo3 o4=>Bn trivial λ(y5:U_) i5=>Aa (λh6=>EG ?_ λ_=>An<|AR ?_) λh6=>An<|AR ?_) (λh2=>lxY ?_)<;>(have h9:hosts9.length=3:=rfl;have hn:∀ i,i<3->isName (hosts9.getD i default)=true:=λi h=>S8 h)<;>(try exact⟨o_,o_,by simp,rfl,rfl⟩)<;>(try obtain⟨a1,a2,a3,a4,a5⟩:=i1;simp only[a5] at *)<;>(try simp only[AA] at *)<;>(try simp only[std,Nat.reduceAdd] at *)<;>(try simp(disch:=omega) only[A_,C_] at *)<;>(try simp(disch:=omega) only[G_,F_])<;>(first|trivial|omega|grind[A_,C_,B_,K_,I_,maxLen]))
abbrev EW:Xct:=⟨[.u],[.el .bm],λ(x:W_)=>True,λ(x:W_) (y:aS)=>isPolicy y.1=true⟩
def E89:=E88.X EW<|Xct.o (KP [0,2,3] [5,15]) E88.2 func45 (by
 rintro⟨(c:PUnit),_⟩ hp;refine ho (.dr Fv ((),(2:Int),()) λ(y1:U_)=>.br (y1.1) (.leaf (.one true [vb (false),.nl,.nl,.nl,vs ((⟨#[]⟩:ByteArray))]) [] []) (.dr NH ((),()) λ(y3:bJ)=>.dr NH ((),()) λ(y4:bJ)=>.dr NH ((),()) λ(y5:bJ)=>.dr Fv ((),(2:Int),()) λ(y6:U_)=>.br (y6.1) (.lx EW (⟨true,y3.1,y4.1,y5.1,(⟨#[110,55]⟩:ByteArray)⟩,())) (.lx EW (⟨true,y3.1,y4.1,y5.1,(⟨#[]⟩:ByteArray)⟩,())))) ?_;refine Bn trivial λ(y1:U_) i1=>Aa (λh2=>Xct.leafZ (S:=EW) (default,()) (by repeat' first|exact rfl|exact trivial|refine And.intro ?_ ?_) ?_) (λh2=>Bn trivial λ(y3:bJ) i3=>Bn trivial λ(y4:bJ) i4=>Bn trivial λ(y5:bJ) i5=>Bn trivial λ(y6:U_) i6=>Aa (λh7=>lxY ?_) λh7=>lxY ?_)<;>(try simp only[AA] at *)<;>(try simp only[std,Nat.reduceAdd] at *)<;>(first|rfl|(simp only[isPolicy,S_,aC,av,db];first|exact⟨⟨⟨⟨i3.2,o_⟩,i4.2,o_⟩,i5.2,o_⟩,.inl trivial⟩|exact⟨⟨⟨⟨i3.2,o_⟩,i4.2,o_⟩,i5.2,o_⟩,.inl rfl⟩|exact⟨⟨⟨⟨i3.2,o_⟩,i4.2,o_⟩,i5.2,o_⟩,.inr (by decide)⟩)))
def Ag0 {α:Type} {f:α->Nat} {B:Nat}:∀ {l:List α},(∀ x∈l,f x<=B)->szL f l<=(B+1)*l.length:=by
 intro l
 induction l with
 | nil=>intro _;simp[szL]
 | cons x l ih=>
  intro h;have h1:=ih λy hy=>h y (cT _ hy)
  have h2:=h x cW;have h3:szL f (x::l)=f x+1+szL f l:=by simp only[szL,bz,List.sum_cons,aq];omega
  rw[h3,aq,Nat.mul_add];omega
def P8 {l:List ByteArray} (h:l.all isName=true):szL Ag l<=9*l.length:=Ag0 (B:=8) λx hx=>AX (aH.1 h x hx)
def Fl {p:aQ} (h:isPolicy p=true):AD p<=128:=by
 cases hs:p.set_ with
 | true=>
  obtain⟨a1,a2,a3,a4,a5,a6,a7⟩:=FW h hs;have b1:=P8 a1;have b2:=P8 a3;have b3:=P8 a5;simp only[AD];omega
 | false=>
  simp only[isPolicy,hs,cD,aP,av] at h;obtain⟨h1,h2,h3,h4⟩:=h;rw[List.length_eq_zero_iff] at h1 h2 h3;simp only[AD,h1,h2,h3,h4];decide
abbrev GZ:Xct:=⟨[.u,.v (.el .int)],[.el .bd],λ(x:az)=>True,λ(x:az) (y:al)=>y.1.body.size<=400/\y.1.bm.size<=200⟩
def E90:=E89.X GZ<|Xct.o (KP [0,1,4,5] [17]) E89.2 func82 (by
 rintro⟨(c:PUnit),(k:Int),_⟩ hp;refine ho (.dr HG ((),k,()) λ(y1:D_)=>.dr Mm ((),[(0:Int),(5:Int),(50:Int)],()) λ(y3:E_)=>.dr Fv ((),(2:Int),()) λ(y4:U_)=>.br (k==1) (.dr EW ((),()) λ(y6:aS)=>.cl AG (y6.1,()) λz2=>.lx GZ (⟨(200:Int),k,y1.1,y3.1,y4.1,z2.1⟩,())) (.lx GZ (⟨(200:Int),k,y1.1,y3.1,y4.1,(⟨#[]⟩:ByteArray)⟩,()))) ?_;refine Bn trivial λ(y1:D_) i1=>BA ?_ λo2 (y3:E_) i3=>Bn trivial λ(y4:U_) i4=>Aa (λh5=>Bn trivial λ(y6:aS) i6=>Cu ?_ λo7 z2 ez2=>lxY ?_) (λh5=>lxY ?_)<;>(try subst_vars)<;>(try have q:=Fl i6)<;>(try have q2:=BV y6.1)<;>(try simp only[AA] at *)<;>(try simp only[std,Nat.reduceAdd] at *)<;>(first|omega|decide|exact⟨i1,q2⟩|exact⟨i1,by decide⟩))
abbrev JC:Xct:=⟨[.u],[.el .bd],λ(x:W_)=>True,λ(x:W_) (y:al)=>y.1.body.size<=2000/\y.1.bm.size<=200⟩
abbrev D0 (c:Unit):LInv:=⟨[⟨.b,3,true,.el .bd⟩,⟨.b,2,true,.el .bd⟩],λ(z x:fh)=>(x.1.body.size<=2000/\x.1.bm.size<=200)/\x.2.1=z.2.1,λ(x:fh)=>400-x.1.body.size⟩
def E91:=E90.X JC<|Xct.p (KP [0,2,3,10] [11,17,23,29,35,40]) (λ⟨c,_⟩=>lv [(12,D0 c)]) E90.2 func167 (by
 rintro⟨(c:PUnit),_⟩ hp;refine ho (let H_:=(⟨#[48,49,50,51,52,53,54,55,56,57]⟩:ByteArray);.dr Bc ((),(5:Int),()) λ(y1:E_)=>.dr GZ ((),wr ((1:Int)+y1.1),()) λ(y2:al)=>.dr Bc ((),(12:Int),()) λ(y3:E_)=>.br (y3.1==0) (.dr Mm ((),[(99:Int),(100:Int),(404:Int),(599:Int),(600:Int)],()) λ(y6:E_)=>.lx JC ({y2.1 with status:=y6.1},())) (.br (y3.1==1) (.dr Mm ((),[(0:Int),(6:Int)],()) λ(y9:E_)=>.lx JC ({y2.1 with kind:=y9.1},())) (.br (y3.1==2) (.dr Mm ((),[(-1:Int),(1000:Int),(1001:Int)],()) λ(y12:E_)=>.lx JC ({y2.1 with age:=y12.1},())) (.br (y3.1==3) (.dr Ga ((),[(⟨#[120]⟩:ByteArray),(⟨#[115,99,114,105,112,116,59,115,116,121,108,101,59,105,109,103]⟩:ByteArray)],()) λ(y15:D_)=>.lx JC ({y2.1 with bm:=y15.1},())) (.br (y3.1==4) (lpx (D0 c) (y2.1,(default,())) λ(y17:fh) bk17=>.br (decide ((y17.1.body.size:Int)<400)) (.ob (sameSize y17.1.body H_)<|.re (Value.int IntKind.i64 y3.1)<|.bk (bk17 (({y17.1 with body:=y17.1.body++H_}:L_),(y17.2.1,())))) (.lx JC (y17.1,()))) (.lx JC (y2.1,()))))))) ?_;refine Bn trivial λ(y1:E_) i1=>Bn trivial λ(y2:al) i2=>Bn trivial λ(y3:E_) i3=>Aa (λh4=>BA ?_ λo5 (y6:E_) i6=>lxY ?_) (λh4=>Aa (λh7=>BA ?_ λo8 (y9:E_) i9=>lxY ?_) λh7=>Aa (λh10=>BA ?_ λo11 (y12:E_) i12=>lxY ?_) λh10=>Aa (λh13=>BA ?_ λo14 (y15:D_) i15=>lxY ?_) λh13=>Aa (λh16=>Aq ?_ λ(y17:fh) i17=>Aa (λh18=>Ac ?_ λ_=>An<|AR ?_) λh18=>lxY ?_) λh16=>lxY ?_)<;>(try simp only[AA] at *)<;>(try simp only[std,Nat.reduceAdd] at *)<;>(first|omega|decide|exact i2|skip)<;>(try simp only[AA] at *)<;>(try simp only[std,Nat.reduceAdd,sameSize,aN] at *)<;>(try simp(disch:=omega) only[A_,C_] at *)<;>(try simp(disch:=omega) only[G_,F_])<;>(first|trivial|omega|grind[A_,C_,B_,K_,I_,maxLen,sameSize,ByteArray.size_append]))
def findGuess (l:List aZ) (a:FS):Int:=AQ (λg=>decide (g.to=a)) l 0
abbrev Fb:Fct:=⟨[.v (.sl .guess),.v (.el .addr)],[.el .int],λ(x:fi)=>x.1.length<=4194304,λ(x:fi)=>(findGuess x.1 x.2.1,())⟩
abbrev Bi (l:(List aZ)) (a:FS):LInv:=⟨[⟨.s,5,true,.el .int⟩,⟨.b,3,true,.el .addr⟩],λ(z x:dl)=>(0<=x.1/\x.1<=l.length/\AQ (λg=>decide (g.to=a)) (l.drop x.1.toNat) x.1=findGuess l a)/\x.2.1=z.2.1,λ(x:dl)=>l.length-x.1.toNat⟩
def E92:=E91.a Fb<|Fct.p (KP [0,3,4,5] [9,18]) (λ⟨l,a,_⟩=>lv [(2,Bi l a)]) E91.2 func180 (by
 rintro⟨(l:List aZ),(a:FS),_⟩ hp;exact hg (.lq (Int×FS×PUnit) (Bi l a).inv (Bi l a).m ((0:Int),(a,())) λy1 bk1=>.br (decide (y1.1<(l.length:Int))) (.ob (inB y1.1 l.length)<|.br ((l.getD y1.1.toNat default).to.host==y1.2.1.host&&((l.getD y1.1.toNat default).to.path==y1.2.1.path&&true)) (.lf Fb (y1.1,())) (.re (l)<|.bk (bk1 (w1 y1.1,(y1.2.1,()))))) (.lf Fb ((-1:Int),()))) (an_ @findGuess.eq_1<|an_ @AQ.eq_1<|@AQ.eq_2))
abbrev Ag4:Fct:=⟨[.v (.sl .guess)],[.sl .guess],λ(x:eO)=>x.1.length<=4194304,λ(x:eO)=>(x.1,())⟩
def addGuess (l:List aZ) (a:FS) (x:L_):List aZ×Bool:=if 0<=findGuess l a\/6<=BB (λg=>!g.used) l then(l,false) else(l++[⟨a,x,false⟩],true)
abbrev HR:Fct:=⟨[.v (.sl .guess),.v (.el .addr),.v (.el .bd)],[.sl .guess,.el .bool],λ(x:gD)=>x.1.length<=4194304,λ(x:gD)=>((addGuess x.1 x.2.1 x.2.2.1).1,(addGuess x.1 x.2.1 x.2.2.1).2,())⟩
def E93:=E92.a HR<|Fct.o (KP [0,4,5,6,7,8] [20]) E92.2 func212 (by
 rintro⟨(l:List aZ),(a:FS),(x:L_),_⟩ hp;exact hg (.ap (0+List.length l) 104<|.cl Fb (l,a,()) λ(z2:E_)=>.br (decide (z2.1>=0)) (.lf HR ([]++l,false,())) (.cl Rh (l,()) λ(z3:E_)=>.br (decide (z3.1>=6)) (.lf HR ([]++l,false,())) (.ap (([]++l).length+[(⟨a,x,false⟩:aZ)].length) 104<|.lf HR ([]++l++[(⟨a,x,false⟩:aZ)],true,())))) (@addGuess.eq_1))
def useGuess (l:List aZ) (a:FS):List aZ×L_×Bool:=if findGuess l a<0 then(l,notFound,false) else(l.modify (findGuess l a).toNat λg=>{ g with used:=true },(l.getD (findGuess l a).toNat default).bd,true)
abbrev Kd:Fct:=⟨[.v (.sl .guess),.v (.el .addr)],[.sl .guess,.el .bd,.el .bool],λ(x:fi)=>x.1.length<=4194304,λ(x:fi)=>((useGuess x.1 x.2.1).1,(useGuess x.1 x.2.1).2.1,(useGuess x.1 x.2.1).2.2,())⟩
def E94:=E93.a Kd<|Fct.o (KP [0,3,4,5,6,7,8] [16]) E93.2 func175 (by
 rintro⟨(l:List aZ),(a:FS),_⟩ hp;exact hg (.ap (0+List.length l) 104<|.cl Fb (l,a,()) λ(z2:E_)=>.br (decide (z2.1<0)) (.cl FA () λz3=>.lf Kd ([]++l,z3.1,false,())) (.ix z2.1 (([]++l).length)<|.lt (List aZ) (([]++l).modify z2.1.toNat λz=>(⟨z.to,z.bd,true⟩:aZ)) λz4=>.ob (0<=z2.1/\z2.1<(↑(List.length l):Int))<|.lf Kd (z4,(List.getD l z2.1.toNat default).bd,true,()))) (an_ @useGuess.eq_1<|an_ @findGuess.eq_1<|(BP (λg:aZ=>decide (g.to=a)) l 0 o_)))
def AhF {b:List Int} (h:Sh.good (.sl .u8) b):∀ j,j<b.length->0<=b.getD j default/\b.getD j default<=255:=by
 intro j hj;have h1:=(Adx (t:=.u8) h hj) (.val (.int .u8 (b.getD j default))) (by simp[Sh.fc,enc]);simp only[Jf,Lit.wf,S_,av] at h1;exact h1
def AjL {α:Type} (f:α->Nat) (l:List α):szL f l=(l.map λx=>f x+1).sum:=by
 induction l with
 | nil=>rfl
 | cons x l ih=>
  have h3:szL f (x::l)=f x+1+szL f l:=by simp only[szL,bz,List.sum_cons,aq];omega
  simp_all
def Pu (b:UInt8) (s:ByteArray):szL Ag (spl b s)=s.size+1:=by
 rw[AjL,<-AN,<-VG b (toL s)];unfold spl;rw[ee];congr 1
abbrev Df:Fct:=⟨[.v (.el .str),.v (.el .u8)],[.sl .str],λ(x:aa)=>x.1.size<=1099511627776/\0<=x.2.1/\x.2.1<=255,λ(x:aa)=>(spl (UInt8.ofNat x.2.1.toNat) x.1,())⟩
def Qa {s:ByteArray} {i:Nat} {b:Int} (h0:0<=b) (h1:b<=255):((s.data.getD i 0).toNat:Int)=b↔s.data.getD i 0=UInt8.ofNat b.toNat:=by
 constructor
 ·intro h;apply UInt8.toNat_inj.1;rw[UInt8.toNat_ofNat'];omega
 ·intro h;rw[h,UInt8.toNat_ofNat'];omega
abbrev Dr (s:ByteArray) (b:Int):LInv:=⟨[⟨.s,5,true,.sl .str⟩,⟨.s,6,true,.el .int⟩,⟨.s,7,true,.el .int⟩],λ_ (x:dv)=>0<=x.2.2.1/\x.2.2.1<=s.size+1/\0<=x.2.1/\x.2.1<=x.2.2.1/\x.1.length<=x.2.2.1/\x.1++KW (UInt8.ofNat b.toNat) s x.2.1.toNat x.2.2.1.toNat=spl (UInt8.ofNat b.toNat) s,λ(x:dv)=>(s.size+1-x.2.2.1).toNat⟩
def E95:=E94.a Df<|Fct.p (KP [0,1,4,5,6,7] [12,25]) (λ⟨s,b,_⟩=>lv [(4,Dr s b)]) E94.2 func100 (by
 rintro⟨(s:ByteArray),(b:Int),_⟩ hp;refine ho (let M_:=Value.int IntKind.u8 b;let J_:=(s.size:Int);lpx (Dr s b) ([],((0:Int),((0:Int),()))) λ(y1:dv) bk1=>let H_:Out:=.ob (0<=y1.2.1/\y1.2.1<=y1.2.2.1/\y1.2.2.1<=J_)<|.ap (y1.1.length+[s.extract y1.2.1.toNat y1.2.2.1.toNat].length) 16<|.re (Value.string s)<|.re M_<|.bk (bk1 (y1.1++[s.extract y1.2.1.toNat y1.2.2.1.toNat],(w1 y1.2.2.1,(w1 y1.2.2.1,()))));.br (decide (y1.2.2.1<=J_)) (.br (y1.2.2.1==J_) H_ (.ob (0<=y1.2.2.1/\y1.2.2.1<J_)<|.br ((↑(s.data.getD y1.2.2.1.toNat 0).toNat:Int)==b) H_ (.re (Value.string s)<|.re M_<|.bk (bk1 (y1.1,(y1.2.1,(w1 y1.2.2.1,()))))))) (.lf Df (y1.1,()))) ?_;refine Aq ?_ λ(y1:dv) i1=>Aa (λh2=>Aa (λh3=>Ac ?_ λ_=>EG ?_ λ_=>An<|An<|AR ?_) λh3=>Ac ?_ λ_=>Aa (λh8=>Ac ?_ λ_=>EG ?_ λ_=>An<|An<|AR ?_) λh8=>An<|An<|AR ?_) (λh2=>lfY ?_)<;>obtain⟨hp1,hp2,hp3⟩:=hp<;>(try obtain⟨a1,a2,a3,a4,a5,a6⟩:=i1)<;>(try obtain⟨a1,a2,a3,a4,a5,a6⟩:=i2)<;>(try obtain⟨a1,a2,a3,a4,a5,a6⟩:=i3)<;>(try simp only[AA] at *)<;>(try simp only[std,Nat.reduceAdd,ak,aq,aU,Qa hp2 hp3] at *)<;>(try simp(disch:=omega) only[A_,C_] at *)<;>(first|trivial|omega|exact⟨o_,o_,o_,o_,o_,YM _ _⟩|skip)<;>(first|(refine⟨⟨o_,o_,o_,o_,o_,?_⟩,o_⟩;rw[Xn _ o_] at a6;rw[Se _ o_,cz];exact a6)|(refine⟨⟨o_,o_,o_,o_,o_,?_⟩,o_⟩;rw[AcR o_ ‹_›] at a6;rw[bF];exact a6)|(refine⟨⟨o_,o_,o_,o_,o_,?_⟩,o_⟩;rw[Xm o_ o_ ‹_›] at a6;exact a6)|(rw[Se _ o_,cz] at a6;exact a6)|skip))
def polCand (s:ByteArray):aQ:=⟨true,(spl 32 ((spl 59 s).getD 0 default)).drop 1,(spl 32 ((spl 59 s).getD 1 default)).drop 1,(spl 32 ((spl 59 s).getD 2 default)).drop 1,if 3<(spl 59 s).length/\6<((spl 59 s).getD 3 default).size then((spl 59 s).getD 3 default).extract 6 ((spl 59 s).getD 3 default).size else⟨#[]⟩⟩
def parsePolicy (s:ByteArray):aQ×Bool:=if s=⟨#[]⟩ then(default,true) else if 3<=(spl 59 s).length/\formatPolicy (polCand s)=s then(polCand s,true) else(default,false)
def EI (b:UInt8) (s:ByteArray) (k:Nat):((spl b s).getD k default).size<=s.size:=by
 by_cases h:k<(spl b s).length
 ·exact Rc (Ae h)
 ·rw[aV,List.getElem?_eq_none o_];exact Nat.zero_le _
def AbQ {s n:ByteArray} (hn:n.size<=s.size):AD ⟨true,(spl 32 ((spl 59 s).getD 0 default)).drop 1,(spl 32 ((spl 59 s).getD 1 default)).drop 1,(spl 32 ((spl 59 s).getD 2 default)).drop 1,n⟩<=4*(s.size+1):=by
 have h0:=EI 59 s 0;have h1:=EI 59 s 1;have h2:=EI 59 s 2;have d0:=PM Ag (spl 32 ((spl 59 s).getD 0 default)) 1;have d1:=PM Ag (spl 32 ((spl 59 s).getD 1 default)) 1;have d2:=PM Ag (spl 32 ((spl 59 s).getD 2 default)) 1;rw[Pu] at d0 d1 d2;simp only[AD];omega
abbrev EC:Fct:=⟨[.v (.el .str)],[.el .bm,.el .bool],λ(x:D_)=>x.1.size<=200000000,λ(x:D_)=>((parsePolicy x.1).1,(parsePolicy x.1).2,())⟩
def E96:=E95.a EC<|Fct.o (KP [0,2,3,4,5] [7,13,40,49]) E95.2 func60 (by
 rintro⟨(s:ByteArray),_⟩ hp;refine ho (let aW:=({ data := #[]:ByteArray });let J_:Out:=.leaf (.tup [(true,[vb (false),.nl,.nl,.nl,vs aW]),(false,[vb (false)])]) [] [];.br (ByteArray.toList s=={ data := #[]:ByteArray }.toList) (.leaf (.tup [(true,[vb (false),.nl,.nl,.nl,vs aW]),(false,[vb (true)])]) [] []) (.ob (Df.pre (s,(59:Int),()))<|.lt bJ (Df.fn (s,(59:Int),())) λz2=>let bH:=(3:Nat)<z2.fst.length;let ax:=(z2.fst.length:Int);let aJ:=(0:Int)<=(3:Int)/\(3:Int)<ax;let ar:=z2.fst.getD (3:Nat) default;.br (decide (ax<(3:Int))) J_ (.ob ((0:Int)<=(0:Int)/\(0:Int)<ax)<|.ob ((0:Nat)<z2.fst.length)<|.ob (Df.pre (z2.fst.getD (0:Nat) default,(32:Int),()))<|.lt bJ (Df.fn (z2.fst.getD (0:Nat) default,(32:Int),())) λz3=>let M_:=z3.fst.length-(1:Nat);let aK:=(1:Nat)+M_<=z3.fst.length;.ob ((0:Int)<=(1:Int)/\(1:Int)<=(z3.fst.length:Int))<|.ob ((0:Int)<=(1:Int)/\(1:Int)<ax)<|.ob ((1:Nat)<z2.fst.length)<|.ob (Df.pre (z2.fst.getD (1:Nat) default,(32:Int),()))<|.lt bJ (Df.fn (z2.fst.getD (1:Nat) default,(32:Int),())) λz4=>let R_:=z4.fst.length-(1:Nat);let bK:=(1:Nat)+R_<=z4.fst.length;.ob ((0:Int)<=(1:Int)/\(1:Int)<=(z4.fst.length:Int))<|.ob ((0:Int)<=(2:Int)/\(2:Int)<ax)<|.ob ((2:Nat)<z2.fst.length)<|.ob (Df.pre (z2.fst.getD (2:Nat) default,(32:Int),()))<|.lt bJ (Df.fn (z2.fst.getD (2:Nat) default,(32:Int),())) λz5=>let Z_:=z5.fst.length-(1:Nat);let cg:=(1:Nat)+Z_<=z5.fst.length;let H_:Out:=.ob aK<|.ob bK<|.ob cg<|.ob (AG.pre ({ set_:=true,bt:=cut z3.fst (1:Nat) M_,styles:=cut z4.fst (1:Nat) R_,images:=cut z5.fst (1:Nat) Z_,nonce:={ data := #[]:ByteArray }:aQ },()))<|.lt D_ (AG.fn ({ set_:=true,bt:=cut z3.fst (1:Nat) M_,styles:=cut z4.fst (1:Nat) R_,images:=cut z5.fst (1:Nat) Z_,nonce:={ data := #[]:ByteArray }:aQ },())) λz7=>.br (!z7.fst.toList==ByteArray.toList s) J_ (.ob aK<|.ob bK<|.ob cg<|.leaf (mkR EC.rs (⟨true,cut z3.fst (1:Nat) M_,cut z4.fst (1:Nat) R_,cut z5.fst (1:Nat) Z_,{ data := #[]:ByteArray }⟩,true,())) [] []);.ob ((0:Int)<=(1:Int)/\(1:Int)<=(z5.fst.length:Int))<|.br (decide (ax>(3:Int))) (.ob aJ<|.ob bH<|.br (decide ((ar.size:Int)>(6:Int))) (.ob aJ<|.ob bH<|.ob ((0:Int)<=(6:Int)/\(6:Int)<=(ar.size:Int))<|.ob aK<|.ob bK<|.ob cg<|.ob (AG.pre ({ set_:=true,bt:=cut z3.fst (1:Nat) M_,styles:=cut z4.fst (1:Nat) R_,images:=cut z5.fst (1:Nat) Z_,nonce:=ar.extract (6:Nat) ar.size:aQ },()))<|.lt D_ (AG.fn ({ set_:=true,bt:=cut z3.fst (1:Nat) M_,styles:=cut z4.fst (1:Nat) R_,images:=cut z5.fst (1:Nat) Z_,nonce:=ar.extract (6:Nat) ar.size:aQ },())) λz6=>.br (!z6.fst.toList==ByteArray.toList s) J_ (.ob aK<|.ob bK<|.ob cg<|.leaf (mkR EC.rs (⟨true,cut z3.fst (1:Nat) M_,cut z4.fst (1:Nat) R_,cut z5.fst (1:Nat) Z_,ar.extract (6:Nat) ar.size⟩,true,())) [] [])) H_) H_))) ?_;refine Aa (λh1=>Fct.leafZ (default,true,()) (by repeat' first|exact rfl|exact trivial|refine And.intro ?_ ?_) ?_) λh1=>Ac ?_ λ_=>K6 (Aa (λh3=>Fct.leafZ (default,false,()) (by repeat' first|exact rfl|exact trivial|refine And.intro ?_ ?_) ?_) λh3=>Ac ?_ λ_=>Ac ?_ λ_=>Ac ?_ λ_=>K6 (Ac ?_ λ_=>Ac ?_ λ_=>Ac ?_ λ_=>Ac ?_ λ_=>K6 (Ac ?_ λ_=>Ac ?_ λ_=>Ac ?_ λ_=>Ac ?_ λ_=>K6 (Ac ?_ λ_=>Aa (λh16=>Ac ?_ λ_=>Ac ?_ λ_=>Aa (λh19=>Ac ?_ λ_=>Ac ?_ λ_=>Ac ?_ λ_=>Ac ?_ λ_=>Ac ?_ λ_=>Ac ?_ λ_=>Ac ?_ λ_=>K6 (Aa (λh27=>Fct.leafZ (default,false,()) (by repeat' first|exact rfl|exact trivial|refine And.intro ?_ ?_) ?_) λh27=>Ac ?_ λ_=>Ac ?_ λ_=>Ac ?_ λ_=>Fct.leafY ?_)) λh19=>Ac ?_ λ_=>Ac ?_ λ_=>Ac ?_ λ_=>Ac ?_ λ_=>K6 (Aa (λh35=>Fct.leafZ (default,false,()) (by repeat' first|exact rfl|exact trivial|refine And.intro ?_ ?_) ?_) λh35=>Ac ?_ λ_=>Ac ?_ λ_=>Ac ?_ λ_=>Fct.leafY ?_)) λh16=>Ac ?_ λ_=>Ac ?_ λ_=>Ac ?_ λ_=>Ac ?_ λ_=>K6 (Aa (λh43=>Fct.leafZ (default,false,()) (by repeat' first|exact rfl|exact trivial|refine And.intro ?_ ?_) ?_) λh43=>Ac ?_ λ_=>Ac ?_ λ_=>Ac ?_ λ_=>Fct.leafY ?_)))));all_goals
  try simp only[AA] at *
  try simp only[std,Nat.reduceAdd,Ajf] at *
  try simp only[show UInt8.ofNat (Int.toNat 59)=59 from rfl,show UInt8.ofNat (Int.toNat 32)=32 from rfl] at *
 all_goals (have g0:=EI 59 s 0;have g1:=EI 59 s 1;have g2:=EI 59 s 2;have g3:=EI 59 s 3;have k0:=Fy 32 ((spl 59 s).getD 0 default);have k1:=Fy 32 ((spl 59 s).getD 1 default);have k2:=Fy 32 ((spl 59 s).getD 2 default))<;>(first|trivial|omega|(with_reducible refine aR (AbQ (Nat.zero_le _)) ?_;omega)|(with_reducible refine aR (AbQ ?_) ?_;(rw[cZ];omega);omega)|skip)<;>(first|(simp only[parsePolicy];rw[G_ ‹_›];exact⟨rfl,rfl⟩)|(simp only[parsePolicy];rw[F_ ‹_›,F_ o_];exact⟨rfl,rfl⟩)|(simp only[parsePolicy,polCand];grind)|skip))
def isResponse (x:L_):Bool:=inRange x.status 100 599&&(inRange x.kind 1 5&&(decide (x.body.size<=400)&&(inRange x.age 0 1000&&(parsePolicy x.bm).2)))
abbrev Bj:Fct:=⟨[.v (.el .bd)],[.el .bool],λ(x:al)=>x.1.bm.size<=200000000,λ(x:al)=>(isResponse x.1,())⟩
def E97:=E96.a Bj<|Fct.o [1,2,4] E96.2 func61 (by
 rintro⟨(x:L_),_⟩ hp;exact hg (.cl EC (x.bm,()) λz2=>.cl AC (x.status,(100:Int),(599:Int),()) λz3=>.br (z3.1) (.cl AC (x.kind,(1:Int),(5:Int),()) λz4=>.br (z4.1) (.br (decide ((x.body.size:Int)<=400)) (.cl AC (x.age,(0:Int),(1000:Int),()) λz5=>.br (z5.1) (.lf Bj (z2.2.1,())) (.lf Bj (false,()))) (.lf Bj (false,()))) (.lf Bj (false,()))) (.lf Bj (false,()))) (@isResponse.eq_1))
def entOk (all:List ce):List ce->Int->Bool
 | [],_=>true
 | e::l,i=>isName e.top&&(isName e.to.host&&isName e.to.path)&&isResponse e.bd&&decide (e.bd.status=200)&&decide (AQ (λx=>decide (x.top=e.top)&&decide (x.to=e.to)) all 0=i)&&entOk all l (i+1)
theorem ek {all l:List ce} {i:Nat} {k:Int} (h:i<l.length):entOk all (l.drop i) k=(isName (l.getD i default).top&&(isName (l.getD i default).to.host&&isName (l.getD i default).to.path)&&isResponse (l.getD i default).bd&&decide ((l.getD i default).bd.status=200)&&decide (AQ (λx=>decide (x.top=(l.getD i default).top)&&decide (x.to=(l.getD i default).to)) all 0=k)&&entOk all (l.drop (i+1)) (k+1)):=by rw[B_ h];rfl
theorem dB {all l:List ce} {i:Nat} {k:Int} (h:l.length<=i):entOk all (l.drop i) k=true:=by rw[bQ h];rfl
def isCache (c:bD):Bool:=entOk c.bh c.bh 0&&decide (c.bh.length<=100)
abbrev H6:Fct:=⟨[.v (.el .cache)],[.el .bool],λ(x:cw)=>szCache x.1<=200000000,λ(x:cw)=>(isCache x.1,())⟩
def Ux {l:List ce} {i:Nat} (h:i<l.length):Bh (l.getD i default)+l.length<=szL Bh l:=Ct Bh h
abbrev BK (c:bD):LInv:=⟨[⟨.s,3,true,.el .int⟩,⟨.b,1,false,.el .cache⟩],λ(z x:fj)=>(0<=x.1/\x.1<=c.bh.length/\entOk c.bh (c.bh.drop x.1.toNat) x.1=entOk c.bh c.bh 0)/\x.2.1=z.2.1,λ(x:fj)=>c.bh.length-x.1.toNat⟩
def E98:=E97.a H6<|Fct.p (KP [1,2,3,4] [9,48]) (λ⟨c,_⟩=>lv [(2,BK c)]) E97.2 func136 (by
 rintro⟨(c:bD),_⟩ hp;refine ho (let J_:Out:=.lf H6 (false,());lpx (BK c) ((0:Int),(c,())) λ(y1:fj) bk1=>let M_:=(y1.2.1.bh.length:Int);let H_:=y1.2.1.bh.getD y1.1.toNat default;.br (decide (y1.1<M_)) (.ob (inB y1.1 y1.2.1.bh.length)<|.cl CA (H_.top,()) λz2=>.br (!z2.1) J_ (.cl F4 (H_.to,()) λz3=>.br (!z3.1) J_ (.cl Bj (H_.bd,()) λz4=>.br (!z4.1) J_ (.br (H_.bd.status != 200) J_ (.cl Gz (y1.2.1,H_.top,H_.to,()) λ(z5:E_)=>.br (z5.1 != y1.1) J_ (.bk (bk1 (w1 y1.1,(y1.2.1,()))))))))) (.lf H6 (decide (M_<=100),()))) ?_;repeat' (guard_target =~ Out.holds _ _;first|refine Aq (li:=BK c) ?_ λ(y1:fj) i1=>?_|refine lfY ?_|refine Aa (λ_=>?_) λ_=>?_|refine Aj ?_ λ_=>?_|refine Ac ?_ λ_=>?_|refine AR ?_)
 all_goals
  have hl:=Ad Bh c.bh;have hg:∀ i,i<c.bh.length->(c.bh.getD i default).top.size<=200000000/\(c.bh.getD i default).to.host.size<=200000000/\(c.bh.getD i default).to.path.size<=200000000/\(c.bh.getD i default).bd.bm.size<=200000000:=λi h=>by have:=Ux h;have hp2:szCache c<=200000000:=hp;simp only[Bh,szCache,szAddr,Ab] at *;omega
  try simp only[AA] at *
  try simp only[std,Nat.reduceAdd,isCache,szCache,ek,dB] at *
  try simp(disch:=omega) only[A_,C_] at *
  try simp(disch:=omega) only[G_,F_]
 all_goals first|trivial|omega|grind[A_,C_,B_,K_,I_,maxLen,isCache,szCache,ek,dB])
def VH {b:UInt8} (hb:valByte b=false) {s:ByteArray} (h:isValue s=true):b∉toL s:=by
 intro hm;simp only[isValue,S_,allB,aH] at h;rw[h.1 b hm] at hb;cases hb
def Ah {α:Type} (f:α->Nat) (x:α) (l:List α):szL f (x::l)=f x+1+szL f l:=by simp only[szL,bz,List.sum_cons,aq];omega
def EU {α:Type} (f:α->Nat) (l:List α) (x:α):szL f (l++[x])=szL f l+(f x+1):=by
 induction l with
 | nil=>rw[ew,Ah];simp[szL]
 | cons y l ih=>rw[cj,Ah,Ah,ih];omega
def AbL {α:Type} (f:α->Nat) (e:α):∀ (l:List α) (i:Nat),szL f (l.modify i λ_=>e)<=szL f l+(f e+1)
 | [],i=>by cases i<;>simp[List.modify,szL]
 | y::l,0=>by rw[List.modify_zero_cons,Ah,Ah];omega
 | y::l,i+1=>by rw[List.modify_succ_cons,Ah,Ah];have:=AbL f e l i;omega
def HZ {α:Type} (f:α->Nat) {t:α}:∀ {l:List α},t∈l->f t+1<=szL f l
 | [],h=>by cases h
 | x::l,h=>by
  rw[Ah];rcases ah.1 h with rfl|h
  ·omega
  ·have:=HZ f h;omega
def putEntry (c:bD) (e:ce) (i:Int):bD:=if 0<=i then⟨c.bh.modify i.toNat λ_=>e⟩ else⟨c.bh++[e]⟩
def entry (t:ByteArray) (a:FS) (x:L_) (now:Int):ce:=⟨t,a,x,IntKind.i64.wrap (now+x.age)⟩
def storeEntry (c:bD) (t:ByteArray) (a:FS) (x:L_) (now:Int):bD :=
 if x.age≠0/\inRange now 0 999999999000=true/\isCache c=true/\isCache (putEntry c (entry t a x now) (AQ (λe=>decide (e.top=t)&&decide (e.to=a)) c.bh 0))=true then putEntry c (entry t a x now) (AQ (λe=>decide (e.top=t)&&decide (e.to=a)) c.bh 0) else c
def Iv {all:List ce}:∀ {l:List ce} {k:Int},entOk all l k=true->∀ e∈l,isResponse e.bd=true
 | [],_,_,e,he=>by cases he
 | y::l,k,h,e,he=>by
  simp only[entOk,S_] at h;rcases ah.1 he with rfl|he
  ·exact h.1.1.1.2
  ·exact Iv h.2 e he
def AeD {c:bD} {e:ce} {i:Int} (hi:i<c.bh.length) (h:isCache (putEntry c e i)=true):isResponse e.bd=true:=by
 unfold isCache at h;rw[S_] at h;refine Iv h.1 e ?_;unfold putEntry;split
 ·rw[List.mem_iff_getElem?];exact⟨i.toNat,by rw[List.getElem?_modify_eq,aG o_];rfl⟩
 ·simp
abbrev Di:Fct:=⟨[.v (.el .cache),.v (.el .str),.v (.el .addr),.v (.el .bd),.v (.el .int)],[.el .cache],λ(x:gE)=>szCache x.1<=100000000/\x.2.1.size<=10000000/\szAddr x.2.2.1<=10000000/\Ab x.2.2.2.1<=10000000,λ(x:gE)=>(storeEntry x.1 x.2.1 x.2.2.1 x.2.2.2.1 x.2.2.2.2.1,())⟩
def E99:=E98.a Di<|Fct.o (KP [1,4,5,7,8,10,11,12,13] [33,48,62]) E98.2 func99 (by
 rintro⟨(c:bD),(t:ByteArray),(a:FS),(x:L_),(now:Int),_⟩ hp;refine ho (let M_:Out:=.cl GB (c,()) λz9=>.lf Di (z9.1,());let H_:=(⟨t,a,x,wr (now+x.age)⟩:ce);.cl GB (c,()) λz2=>let J_:Out:=.lf Di (z2.1,());.br (x.age==0) J_ (.cl AC (now,(0:Int),(999999999000:Int),()) λz3=>.br (!z3.1) J_ (.cl Bj (x,()) λz4=>.br (!z4.1) J_ (.cl H6 (c,()) λz5=>.br (!z5.1) J_ (.cl Gz (c,t,a,()) λ(z6:E_)=>.br (decide (z6.1>=0)) (.ix z6.1 z2.1.bh.length<|.lt (List ce) (z2.1.bh.modify z6.1.toNat λz=>H_) λz7=>.cl H6 ((⟨z7⟩:bD),()) λz8=>.br (!z8.1) M_ (.lf Di (⟨z7⟩,()))) (.ap (z2.1.bh.length+[H_].length) 120<|.cl H6 ((⟨z2.1.bh++[H_]⟩:bD),()) λz10=>.br (!z10.1) M_ (.lf Di (⟨z2.1.bh++[H_]⟩,())))))))) ?_;repeat' first|(guard_target =~ Out.holds _ _;first|refine lfY ?_|refine Aa (λ_=>?_) λ_=>?_|refine Aj ?_ λ_=>?_|refine K6 ?_|refine EG ?_ λ_=>?_|refine CW ?_ λ_ _=>?_)|exact trivial
 all_goals
  have hi:=BP (λe:ce=>decide (e.top=t)&&decide (e.to=a)) c.bh 0 o_;have hr:=λ(i:Int) (h:i<c.bh.length)=>AeD (c:=c) (e:=entry t a x now) h
  have hm:=λi=>AbL Bh (entry t a x now) c.bh i
  have hs:=EU Bh c.bh (entry t a x now);have hz:Bh (entry t a x now)<=40000000:=by have hp2:szCache c<=100000000/\t.size<=10000000/\szAddr a<=10000000/\Ab x<=10000000:=hp;simp only[Bh,entry];omega
  have hq:x.bm.size<=10000000:=by have hp2:szCache c<=100000000/\t.size<=10000000/\szAddr a<=10000000/\Ab x<=10000000:=hp;simp only[Ab] at hp2;omega
  have hn:=Ad Bh c.bh;try simp only[AA] at *
  try simp only[std,Nat.reduceAdd,storeEntry,putEntry,entry,szCache] at *
  try simp(disch:=omega) only[A_,C_] at *
  try simp(disch:=omega) only[G_,F_]
 all_goals first|trivial|omega|grind[A_,C_,I_,maxLen,storeEntry,putEntry,entry,szCache])
def keepAnswer (n:N_) (t:ByteArray) (a:FS) (x:L_):N_:=if(lookUp n.cache t a n.now).isSome=false/\isResponse x=true/\x.status=200 then{ n with cache:=storeEntry n.cache t a x n.now } else n
abbrev Cd:Fct:=⟨[.v (.el .net),.v (.el .str),.v (.el .addr),.v (.el .bd)],[.el .net],λ(x:gF)=>szNet x.1<=10000000000/\szCache x.1.cache<=90000000/\x.2.1.size<=10000000/\szAddr x.2.2.1<=10000000/\Ab x.2.2.2.1<=10000000,λ(x:gF)=>(keepAnswer x.1 x.2.1 x.2.2.1 x.2.2.2.1,())⟩
def Ans:=E99.a Cd<|Fct.o (KP [1,4,6,7,8,9,11] [34]) E99.2 func59 (by
 rintro⟨(n:N_),(t:ByteArray),(a:FS),(x:L_),_⟩ hp;refine ho (.cl JF (n,()) λz2=>.cl Nn (n.cache,t,a,n.now,()) λz3=>.br (!z3.2.1) (.cl Bj (x,()) λz4=>.br (z4.1) (.br (x.status==200) (.cl Di (n.cache,t,a,x,n.now,()) λz5=>.lf Cd (⟨z2.1.servers,z5.1,z2.1.log,z2.1.now⟩,())) (.lf Cd (z2.1,()))) (.lf Cd (z2.1,()))) (.lf Cd (z2.1,()))) ?_;repeat' (guard_target =~ Out.holds _ _;first|refine lfY ?_|refine Aa (λ_=>?_) λ_=>?_|refine Aj ?_ λ_=>?_)
 all_goals
  have hn:=Ad Bh n.cache.bh;have hc:szCache n.cache=szL Bh n.cache.bh:=rfl;have hq:x.bm.size<=10000000:=by have hp2:szNet n<=10000000000/\szCache n.cache<=90000000/\t.size<=10000000/\szAddr a<=10000000/\Ab x<=10000000:=hp;simp only[Ab] at hp2;omega
  try simp only[AA] at *
  try simp only[std,Nat.reduceAdd,keepAnswer] at *
  try simp(disch:=omega) only[A_,C_] at *
  try simp(disch:=omega) only[G_,F_]
 all_goals first|trivial|omega|grind[A_,C_,B_,K_,I_,maxLen,keepAnswer])
def logSent (n:N_) (t:ByteArray) (a:FS) (g:Bool):N_:=if n.log.length<400 then{ n with log:=n.log++[⟨t,a,g⟩]} else n
def fetchNow (n:N_) (t:ByteArray) (a:FS) (g:Bool):N_×L_ :=
 if(isName a.host&&isName a.path)=false then(n,notFound)
 else if(lookUp n.cache t a n.now).isSome then(n,(lookUp n.cache t a n.now).getD notFound)
 else(if g then logSent n t a g else keepAnswer (logSent n t a g) t a (answerTo n.servers a),answerTo n.servers a)
def M5 (l:List V_) (a:FS):Ab (answerTo l a)<=szL Af l:=by
 unfold answerTo;split
 ·exact Nat.zero_le _
 split
 ·exact Nat.zero_le _
 ·rename_i h1 h2;have h3:=BP (λs:V_=>decide (s.host=a.host)) l 0 o_;have h4:=Ct Af (l:=l) (i:=(AQ (λs=>decide (s.host=a.host)) l 0).toNat) o_;have h5:=BP (λf:aD=>decide (f.path=a.path)) (l.getD (AQ (λs=>decide (s.host=a.host)) l 0).toNat default).files 0 o_;have h6:=Ct Gq (l:=(l.getD (AQ (λs=>decide (s.host=a.host)) l 0).toNat default).files) (i:=(AQ (λf:aD=>decide (f.path=a.path)) (l.getD (AQ (λs=>decide (s.host=a.host)) l 0).toNat default).files 0).toNat) o_;simp only[Af,Gq] at h4 h6;omega
abbrev Bw:Fct:=⟨[.v (.el .net),.v (.el .str),.v (.el .addr),.v (.el .bool)],[.el .net,.el .bd],λ(x:gG)=>szNet x.1<=9000000000/\szCache x.1.cache<=90000000/\szL Af x.1.servers<=10000000/\x.2.1.size<=10000000/\szAddr x.2.2.1<=10000000,λ(x:gG)=>((fetchNow x.1 x.2.1 x.2.2.1 x.2.2.2.1).1,(fetchNow x.1 x.2.1 x.2.2.1 x.2.2.2.1).2,())⟩
def AnJ:=Ans.a Bw<|Fct.o (KP [1,3,4,6,8,9,10,11,12,13] [18,31,41,52]) Ans.2 func27 (by
 rintro⟨(n:N_),(t:ByteArray),(a:FS),(g:Bool),_⟩ hp;refine ho (let J_:=(⟨t,a,g⟩:bE);.cl JF (n,()) λz2=>.cl F4 (a,()) λz3=>.br (!z3.1) (.cl FA () λz4=>.lf Bw (z2.1,z4.1,())) (.cl Nn (n.cache,t,a,n.now,()) λz5=>let M_:Out:=.lf Bw (z2.1,z5.1,());.br (z5.2.1) (.lp (Bool) (True) (λx=>True) λy6=>.br (y6) M_ M_) (.cl Ht (n.servers,a,()) λz6=>let ar:Out:=.lf Bw (z2.1,z6.1,());let H_:Out:=.lf Bw ({z2.1 with log:=z2.1.log++[J_]},z6.1,());.br (decide ((n.log.length:Int)<400)) (.ap (z2.1.log.length+[J_].length) 56<|.br (!g) (.cl Cd (({z2.1 with log:=z2.1.log++[J_]}:N_),t,a,z6.1,()) λz7=>let R_:Out:=.lf Bw (z7.1,z6.1,());.lp (Bool) (True) (λx=>True) λy13=>.br (y13) R_ R_) (.lp (Bool) (True) (λx=>True) λy15=>.br (y15) H_ H_)) (.br (!g) (.cl Cd (z2.1,t,a,z6.1,()) λz8=>let Z_:Out:=.lf Bw (z8.1,z6.1,());.lp (Bool) (True) (λx=>True) λy19=>.br (y19) Z_ Z_) (.lp (Bool) (True) (λx=>True) λy21=>.br (y21) ar ar))))) ?_;refine Aj ?_ λ_=>(Aj ?_ λ_=>Aa (λh3=>Aj trivial λ_=>lfY ?_) λh3=>Aj ?_ λ_=>Aa (λh5=>Ju trivial λy6 i6=>Aa (λh7=>lfY ?_) λh7=>lfY ?_) λh5=>Aj ?_ λ_=>Aa (λh9=>EG ?_ λ_=>Aa (λh11=>Aj ?_ λ_=>Ju trivial λy13 i13=>Aa (λh14=>lfY ?_) λh14=>lfY ?_) λh11=>Ju trivial λy15 i15=>Aa (λh16=>lfY ?_) λh16=>lfY ?_) λh9=>Aa (λh17=>Aj ?_ λ_=>Ju trivial λy19 i19=>Aa (λh20=>lfY ?_) λh20=>lfY ?_) λh17=>Ju trivial λy21 i21=>Aa (λh22=>lfY ?_) λh22=>lfY ?_)<;>(have hn:=Ad Bh n.cache.bh;have hc:szCache n.cache=szL Bh n.cache.bh:=rfl;have ha:=M5 n.servers a;have hs:=EU Gv n.log ⟨t,a,g⟩;have hs2:Gv ⟨t,a,g⟩=t.size+szAddr a:=rfl;have hd:a.host.size<=szAddr a/\a.path.size<=szAddr a:=⟨cO _ _,Nat.le_add_left _ _⟩;have hl:=Ad Gv n.log;try simp only[AA] at *)<;>(try simp only[std,Nat.reduceAdd,fetchNow,logSent,szNet] at *)<;>(try simp(disch:=omega) only[A_,C_] at *)<;>(try simp(disch:=omega) only[G_,F_])<;>(first|trivial|omega|grind[A_,C_,B_,K_,I_,maxLen,fetchNow,logSent,szNet]))
def newBuilder:aj:=⟨[⟨⟨#[112,97,103,101]⟩,⟨#[]⟩,-1,[]⟩],[0]⟩
abbrev Jo:Fct:=⟨[],[rE .ba],λ_=>True,λ_=>(newBuilder,())⟩
def AmA:=AnJ.a Jo<|Fct.o [0] AnJ.2 func62 (by
 rintro⟨_⟩ hp;exact hg (.lf Jo (⟨[(⟨(⟨#[112,97,103,101]⟩:ByteArray),(⟨#[]⟩:ByteArray),(-1:Int),[]⟩:cP)],[(0:Int)]⟩,())) (@newBuilder.eq_1))
def newPage (a:FS) (x:L_):HO×Bool:=if(isName a.host&&isName a.path)=true/\isResponse x=true/\x.status=200/\x.kind=1 then(⟨a,(parsePolicy x.bm).1,default,[],false,newBuilder,[],[],[],0,0,0,0,[],[],false⟩,true) else(default,false)
abbrev PH:Fct:=⟨[.v (.el .addr),.v (.el .bd)],[.el .page,.el .bool],λ(x:FS×L_×Unit)=>x.2.1.bm.size<=200000000/\szAddr x.1<=10000000,λ(x:FS×L_×Unit)=>((newPage x.1 x.2.1).1,(newPage x.1 x.2.1).2,())⟩
def Amd:=AmA.a PH<|Fct.o (KP [2,3,4,5,6,7] [35]) AmA.2 func28 (by
 rintro⟨(a:FS),(x:L_),_⟩ hp;refine ho (let J_:=(⟨#[]⟩:ByteArray);let H_:Out:=.leaf (.tup [(true,[vs J_,vs J_,vb (false),.nl,.nl,.nl,vs J_,vs J_,.nl,vb (false),.nl,.nl,.nl,.nl,.nl,vi ((0:Int)),vi ((0:Int)),vi ((0:Int)),vi ((0:Int)),.nl,.nl,vb (false)]),(false,[vb (false)])]) [] [];.cl EC (x.bm,()) λz2=>.cl F4 (a,()) λz3=>.br (!z3.1) H_ (.cl Bj (x,()) λz4=>.br (!z4.1) H_ (.br (!z2.2.1) H_ (.br (x.status != 200) H_ (.br (x.kind != 1) H_ (.cl Jo () λz5=>.leaf (.tup [(true,[vs (a.host),vs (a.path),vb (z2.1.set_),.l Ty.str (z2.1.bt),.l Ty.str (z2.1.styles),.l Ty.str (z2.1.images),vs (z2.1.nonce),vs J_,.nl,vb (false),.l Ty.node (z5.1.bj),.l Ty.int (z5.1.bn),.nl,.nl,.nl,vi ((0:Int)),vi ((0:Int)),vi ((0:Int)),vi ((0:Int)),.nl,.nl,vb (false)]),(false,[vb (true)])]) [] [])))))) ?_;refine Cu ?_ λo1 z2 ez2=>(Cu ?_ λo2 z3 ez3=>Aa (λh3=>Fct.leafZ (default,false,()) (by repeat' first|exact rfl|exact trivial|refine And.intro ?_ ?_) ?_) λh3=>Cu ?_ λo4 z4 ez4=>Aa (λh5=>Fct.leafZ (default,false,()) (by repeat' first|exact rfl|exact trivial|refine And.intro ?_ ?_) ?_) λh5=>Aa (λh6=>Fct.leafZ (default,false,()) (by repeat' first|exact rfl|exact trivial|refine And.intro ?_ ?_) ?_) λh6=>Aa (λh7=>Fct.leafZ (default,false,()) (by repeat' first|exact rfl|exact trivial|refine And.intro ?_ ?_) ?_) λh7=>Aa (λh8=>Fct.leafZ (default,false,()) (by repeat' first|exact rfl|exact trivial|refine And.intro ?_ ?_) ?_) λh8=>Cu trivial λ_ z5 ez5=>Fct.leafZ (⟨a,z2.fst,default,[],false,z5.fst,[],[],[],(0:Int),(0:Int),(0:Int),(0:Int),[],[],false⟩,true,()) (by repeat' first|exact rfl|exact trivial|refine And.intro ?_ ?_) ?_)<;>subst_vars<;>(have hd:a.host.size<=szAddr a/\a.path.size<=szAddr a:=⟨cO _ _,Nat.le_add_left _ _⟩;try simp only[AA] at *)<;>(try simp only[std,Nat.reduceAdd,newPage,isResponse] at *)<;>(try simp(disch:=omega) only[A_,C_] at *)<;>(try simp(disch:=omega) only[G_,F_])<;>(first|trivial|omega|grind[A_,C_,B_,K_,I_,maxLen,newPage,isResponse]))
def startLoad (n:N_) (a:FS) (cs:List Int):O_×Bool:=if(newPage a (fetchNow n a.host a false).2).2 then(⟨(fetchNow n a.host a false).1,(newPage a (fetchNow n a.host a false).2).1,cutText (fetchNow n a.host a false).2.body cs,[],[]⟩,true) else(⟨(fetchNow n a.host a false).1,default,[],[],[]⟩,false)
def AaB {c:bD} {t:ByteArray} {a:FS} {now:Int} {x:L_} (h:lookUp c t a now=some x):Ab x<=szCache c:=by
 unfold lookUp at h;obtain⟨e,he,rfl⟩:=Option.map_eq_some_iff.1 h;obtain⟨i,hi,rfl⟩:=List.mem_iff_getElem.1 (List.mem_of_find?_eq_some he);have:=Ct Bh (l:=c.bh) (i:=i) hi;rw[aV,aG hi] at this;simp only[Option.getD_some,Bh] at this;simp only[szCache];omega
def P6 (n:N_) (t:ByteArray) (a:FS) (g:Bool):Ab (fetchNow n t a g).2<=szNet n:=by
 unfold fetchNow;split
 ·exact Nat.zero_le _
 split
 ·rename_i h;obtain⟨x,hx⟩:=Option.isSome_iff_exists.1 h;have:=AaB hx;rw[hx];simp only[Option.getD_some,szNet];omega
 ·have:=M5 n.servers a;simp only[szNet];omega
abbrev OS:Fct:=⟨[.v (.el .net),.v (.el .addr),.v (.sl .int)],[.el .loader,.el .bool],λ(x:gH)=>szNet x.1<=1048576/\szAddr x.2.1<=1048576/\x.2.2.1.length<=1048576,λ(x:gH)=>((startLoad x.1 x.2.1 x.2.2.1).1,(startLoad x.1 x.2.1 x.2.2.1).2,())⟩
def Amb:=Amd.a OS<|Fct.o (KP [2,3,4,6,7,8,9,10,11,12] [30]) Amd.2 func25 (by
 rintro⟨(n:N_),(a:FS),(cs:List Int),_⟩ hp;refine ho (.cl Bw (n,a.host,a,false,()) λz2=>.cl PH (a,z2.2.1,()) λz3=>.br (!z3.2.1) (.leaf (.tup [(true,[.l Ty.server (z2.1.servers),.l Ty.entry (z2.1.cache.bh),.l Ty.sent (z2.1.log),vi (z2.1.now),vs ((⟨#[]⟩:ByteArray)),vs ((⟨#[]⟩:ByteArray)),vb (false),.nl,.nl,.nl,vs ((⟨#[]⟩:ByteArray)),vs ((⟨#[]⟩:ByteArray)),.nl,vb (false),.nl,.nl,.nl,.nl,.nl,vi ((0:Int)),vi ((0:Int)),vi ((0:Int)),vi ((0:Int)),.nl,.nl,vb (false),.nl,.nl,.nl]),(false,[vb (false)])]) [] []) (.cl PS (z2.2.1.body,cs,()) λz4=>.leaf (.tup [(true,[.l Ty.server (z2.1.servers),.l Ty.entry (z2.1.cache.bh),.l Ty.sent (z2.1.log),vi (z2.1.now),vs (z3.1.addr.host),vs (z3.1.addr.path),vb (z3.1.bm.set_),.l Ty.str (z3.1.bm.bt),.l Ty.str (z3.1.bm.styles),.l Ty.str (z3.1.bm.images),vs (z3.1.bm.nonce),vs (z3.1.tok.rest),.l Ty.token (z3.1.bp),vb (z3.1.ended),.l Ty.node (z3.1.ba.bj),.l Ty.int (z3.1.ba.bn),.l Ty.slot (z3.1.bf),.l Ty.module (z3.1.bi),.l Ty.addr (z3.1.bh),vi (z3.1.block),vi (z3.1.inline),vi (z3.1.bo),vi (z3.1.bu),.l Ty.addr (z3.1.ran),.l Ty.str (z3.1.log),vb (z3.1.loaded),.l Ty.str (z4.1),.nl,.nl]),(false,[vb (true)])]) [] [])) ?_;refine Cu ?_ λo1 z2 ez2=>(Cu ?_ λo2 z3 ez3=>Aa (λh3=>Fct.leafZ (⟨z2.fst,default,[],[],[]⟩,false,()) (by repeat' first|exact rfl|exact trivial|refine And.intro ?_ ?_) ?_) λh3=>Cu ?_ λo4 z4 ez4=>Fct.leafZ (⟨z2.fst,z3.fst,z4.fst,[],[]⟩,true,()) (by repeat' first|exact rfl|exact trivial|refine And.intro ?_ ?_) ?_)<;>subst_vars<;>(have hf:=P6 n a.host a false;have hd:a.host.size<=szAddr a/\a.path.size<=szAddr a:=⟨cO _ _,Nat.le_add_left _ _⟩;have he:(fetchNow n a.host a false).2.body.size<=Ab (fetchNow n a.host a false).2/\(fetchNow n a.host a false).2.bm.size<=Ab (fetchNow n a.host a false).2:=⟨cO _ _,Nat.le_add_left _ _⟩;try simp only[AA] at *)<;>(try simp only[std,Nat.reduceAdd,startLoad,szNet] at *)<;>(try simp(disch:=omega) only[A_,C_] at *)<;>(try simp(disch:=omega) only[G_,F_])<;>(first|trivial|omega|grind[A_,C_,B_,K_,I_,maxLen,startLoad,szNet]))
def Ms (s:ByteArray) (cs:List Int):∀ (f:Nat) (i a:Int),∀ x∈cutGo s cs f i a,Ag x<=s.size
 | 0,i,a,x,h=>by
  simp only[cutGo,List.mem_singleton] at h;subst h;simp only[Ag,cZ];omega
 | f+1,i,a,x,h=>by
  simp only[cutGo] at h;split at h
  ·rcases ah.1 h with rfl|h
   ·simp only[Ag,cZ];omega
   ·exact Ms s cs f _ _ x h
  ·exact Ms s cs f _ _ x h
def Xv (s:ByteArray) (cs:List Int):szL Ag (cutText s cs)<=(s.size+1)*8 :=
 aR (Ag0 λx hx=>Ms s cs _ _ _ x hx) (Nat.mul_le_mul_left _ (Ve s cs))
def Aem (s:ByteArray):AD (parsePolicy s).1<=4*(s.size+1):=by
 unfold parsePolicy;split
 ·have:AD (default:aQ)=0:=by decide
  simp only[this];exact Nat.zero_le _
 split
 ·unfold polCand;exact AbQ (by
   split
   ·rw[cZ];have:=EI 59 s 3;omega
   ·exact Nat.zero_le _)
 ·have:AD (default:aQ)=0:=by decide
  simp only[this];exact Nat.zero_le _
def digestOf (b:ByteArray):Int:=hashI (151::bti (Av b) (Av b)) 11
def Ly (b:ByteArray) (i:Nat):0<=(Av b).getD i default/\(Av b).getD i default<=255:=by
 unfold Av;rw[aV,cp];cases h:b.data.toList[i]? with
 | none=>exact⟨Int.le_refl _,by decide⟩
 | some x=>have:=x.toNat_lt;simp only[aY,Option.getD_some];omega
def Ha (b:ByteArray):(Av b).length=b.size:=by rw[Av,cC];rfl
def S1 (b:ByteArray):List.map (λb:UInt8=>(b.toNat:Int)) b.data.toList=Av b:=rfl
def AkT {b:ByteArray} (hb:b.size<=1000000000) (i:Nat) : -9223372036854775808<=(151::bti (Av b) (Av b)).getD i default/\(151::bti (Av b) (Av b)).getD i default<=9223372036854775807:=by
 match i with
 | 0=>
  simp
 | 1=>
  show -9223372036854775808<=((Av b).length:Int)/\((Av b).length:Int)<=9223372036854775807;rw[Ha];omega
 | i+2=>
  have:=Ly b i;show -9223372036854775808<=(Av b).getD i default/\(Av b).getD i default<=9223372036854775807;omega
def AiA (b:ByteArray):(151::bti (Av b) (Av b)).length=b.size+2:=by simp[bti,Ha]
abbrev Ny:Fct:=⟨[.v (.el .str)],[.el .int],λ(x:D_)=>x.1.size<=1000000000,λ(x:D_)=>(digestOf x.1,())⟩
def Aml:=Amb.a Ny<|Fct.o [0,2] Amb.2 func198 (by
 rintro⟨(b:ByteArray),_⟩ hp;refine ho (.cl HQ (List.map (λb=>(b.toNat:Int)) b.data.toList,()) λ(z2:am)=>.ap (1+z2.1.length) 8<|.cl AhM ([(151:Int)]++z2.1,()) λ(z3:E_)=>.lf Ny (z3.1,())) ?_;refine Aj ?_ λ_=>(EG ?_ λ_=>Aj ?_ λ_=>lfY ?_)<;>(have h1:=Ly b;have h2:=Ha b;have h3:=AiA b;have h4:=AkT (show b.size<=1000000000 from hp);try simp only[AA] at *)<;>(try simp only[std,Nat.reduceAdd,S1,digestOf,List.singleton_append] at *)<;>(first|trivial|omega|exact⟨o_,λi _=>h1 i⟩|exact⟨o_,λi _=>h4 i⟩|skip))
def Nw:∀ (l:List Int) (d:Int),0<=d->d<2147483647->0<=hashI l d/\hashI l d<2147483647
 | [],d,h0,h1=>⟨h0,h1⟩
 | x::l,d,h0,h1=>by have hm:=Pb x;have ht:=O4 (x:=d*1000003+modM x 2147483647+13) o_;exact Nw l _ ht.1 ht.2
def SN (b:ByteArray):0<=digestOf b/\digestOf b<2147483647:=Nw _ 11 (by decide) (by decide)
abbrev FP:Fct:=⟨[.v (.el .str),.v (.el .str)],[.el .bool],λ(x:dx)=>x.1.size<=1000000000,λ(x:dx)=>(decide (x.2.1=⟨#[]⟩)||decide (x.2.1=R0 (digestOf x.1)),())⟩
def Anz:=Aml.a FP<|Fct.o [0,1,4] Aml.2 func154 (by
 rintro⟨(b:ByteArray),(v:ByteArray),_⟩ hp;exact hg (.br (ByteArray.toList v==(⟨#[]⟩:ByteArray).toList) (.lf FP (true,())) (.cl Ny (b,()) λ(z2:E_)=>.cl AL (z2.1,()) λz3=>.lf FP (ByteArray.toList v==z3.1.toList,()))) ((SN b)))
def checkResponse (p:aQ) (r:ay) (x:L_):Int:=if checkRequest p r≠1 then 2 else if isResponse x=false\/x.status≠200 then 3 else if(decide (x.kind=r.kind)||decide (r.kind=5/\x.kind=2))=false then 4 else if r.from_≠r.to.host/\x.shares=false/\(r.kind=5\/r.digest≠⟨#[]⟩) then 5 else if(decide (r.digest=⟨#[]⟩)||decide (r.digest=R0 (digestOf x.body)))=false then 6 else 1
def LG {p:aQ} {r:ay} (h:checkRequest p r≠1):checkRequest p r=2:=by
 unfold checkRequest at *;split<;>simp_all
abbrev AU:Fct:=⟨[.v (.el .bm),.v (.el .request),.v (.el .bd)],[.el .int],λ(x:fk)=>AD x.1<=1099511627776/\Bx x.2.1<=1099511627776/\x.2.2.1.bm.size<=200000000/\x.2.2.1.body.size<=1000000000,λ(x:fk)=>(checkResponse x.1 x.2.1 x.2.2.1,())⟩
def Al9:=Anz.a AU<|Fct.o (KP [3,4,5,6] [7,12,21,27,49]) Anz.2 func118 (by
 rintro⟨(p:aQ),(r:ay),(x:L_),_⟩ hp;exact hg (let M_:Out:=.lf AU ((5:Int),());let J_:Out:=.lf AU ((3:Int),());let H_:Out:=.cl FP (x.body,r.digest,()) λz5=>.br (!z5.1) (.lf AU ((6:Int),())) (.lf AU ((1:Int),()));.cl Bs (p,r,()) λ(z2:E_)=>.br (z2.1 != 1) (.lf AU ((2:Int),())) (.cl Bj (x,()) λz3=>.br (!z3.1) J_ (.br (x.status != 200) J_ (.cl HJ (x,r.kind,()) λz4=>.br (!z4.1) (.lf AU ((4:Int),())) (.br (!r.from_.toList==r.to.host.toList) (.br (!x.shares) (.br (r.kind==5) M_ (.br (!r.digest.toList==(⟨#[]⟩:ByteArray).toList) M_ H_)) H_) H_))))) (an_ @checkResponse.eq_1<|(λh=>LG (p:=p) (r:=r) h)))
def usable (p:aQ) (r:ay) (x:L_):ByteArray×Bool:=if checkResponse p r x=1 then(x.body,true) else(⟨#[]⟩,false)
abbrev FO:Fct:=⟨[.v (.el .bm),.v (.el .request),.v (.el .bd)],[.el .str,.el .bool],λ(x:fk)=>AD x.1<=1099511627776/\Bx x.2.1<=1099511627776/\x.2.2.1.bm.size<=200000000/\x.2.2.1.body.size<=1000000000,λ(x:fk)=>((usable x.1 x.2.1 x.2.2.1).1,(usable x.1 x.2.1 x.2.2.1).2,())⟩
def AnO:=Al9.a FO<|Fct.o (KP [3,4,5,6,7] [12]) Al9.2 func119 (by
 rintro⟨(p:aQ),(r:ay),(x:L_),_⟩ hp;exact hg (.cl AU (p,r,x,()) λ(z2:E_)=>.br (z2.1 != 1) (.lf FO ((⟨#[]⟩:ByteArray),false,())) (.lf FO (x.body,true,()))) (@usable.eq_1))
def kindOf (m:Int):Int:=if m=1 then 4 else if m=2 then 3 else if m=3\/m=4 then 2 else 0
abbrev Cc:Fct:=⟨[.v (.el .int)],[.el .int],λ(x:E_)=>True,λ(x:E_)=>(kindOf x.1,())⟩
def AmY:=AnO.a Cc<|Fct.o (KP [0,2,3,8] [4,6]) AnO.2 func116 (by
 rintro⟨(m:Int),_⟩ hp;exact hg (.br (m==1) (.lf Cc ((4:Int),())) (.br (m==2) (.lf Cc ((3:Int),())) (.br (m==3) (.br (m==3) (.lf Cc ((2:Int),())) (.lf Cc ((0:Int),()))) (.br (m==4) (.lf Cc ((2:Int),())) (.lf Cc ((0:Int),())))))) (@kindOf.eq_1))
def slotRequest (p:HO) (k:Int):ay:=if 0<=k/\k<p.bf.length then⟨kindOf (p.bf.getD k.toNat default).mode,(p.bf.getD k.toNat default).to,p.addr.host,(p.bf.getD k.toNat default).digest⟩ else default
abbrev DB:Fct:=⟨[.v (.el .page),.v (.el .int)],[.el .request],λ(x:bW)=>x.1.bf.length<=1000000000000/\-9223372036854775808<=x.2.1/\x.2.1<=9223372036854775807,λ(x:bW)=>(slotRequest x.1 x.2.1,())⟩
def Ang:=AmY.a DB<|Fct.o (KP [1,2,4,5] [12]) AmY.2 func69 (by
 rintro⟨(p:HO),(k:Int),_⟩ hp;exact hg (.cl AC (k,(0:Int),wr ((p.bf.length:Int)-(1:Int)),()) λz2=>.br (!z2.1) (.lf DB (default,())) (.ob (inB k p.bf.length)<|.cl Cc ((p.bf.getD (Int.toNat k) default).mode,()) λ(z3:E_)=>.lf DB (⟨z3.1,(p.bf.getD (Int.toNat k) default).to,p.addr.host,(p.bf.getD (Int.toNat k) default).digest⟩,()))) (an_ @slotRequest.eq_1<|@inRange.eq_1))
def modRequest (p:HO) (k:Int):ay:=if 0<=k/\k<p.bi.length then⟨5,(p.bi.getD k.toNat default).to,p.addr.host,⟨#[]⟩⟩ else default
abbrev Fu:Fct:=⟨[.v (.el .page),.v (.el .int)],[.el .request],λ(x:bW)=>x.1.bi.length<=2000000000000/\-9223372036854775808<=x.2.1/\x.2.1<=9223372036854775807,λ(x:bW)=>(modRequest x.1 x.2.1,())⟩
def AmV:=Ang.a Fu<|Fct.o (KP [1,2,4] [11]) Ang.2 func71 (by
 rintro⟨(p:HO),(k:Int),_⟩ hp;exact hg (.cl AC (k,(0:Int),wr ((p.bi.length:Int)-(1:Int)),()) λz2=>.br (!z2.1) (.lf Fu (default,())) (.ob (inB k p.bi.length)<|.lf Fu (⟨(5:Int),(p.bi.getD (Int.toNat k) default).to,p.addr.host,(⟨#[]⟩:ByteArray)⟩,()))) (an_ @modRequest.eq_1<|@inRange.eq_1))
def addrOf (s b:ByteArray):FS:=match Ge 47 (toL s) with
 | some (p,q)=>⟨ofL p,ofL q⟩
 | none=>⟨b,s⟩
def parseAddr (s b:ByteArray):FS×Bool:=if isName (addrOf s b).host&&isName (addrOf s b).path then(addrOf s b,true) else(default,false)
def Yt {s b:ByteArray} {i:Nat} (h:i<s.size) (hb:s.data.getD i 0=47) (hn:47∉(toL s).take i):addrOf s b=⟨s.extract 0 i,s.extract (i+1) s.size⟩:=by
 unfold addrOf;rw[AcQ h hb hn];have e1:ofL ((toL s).take i)=s.extract 0 i:=by rw[<-AH (s.extract 0 i),Az,fI]
 have e2:ofL ((toL s).drop (i+1))=s.extract (i+1) s.size:=by rw[<-AH (s.extract (i+1) s.size),Az,ci (by rw[AN];exact Y_ _)]
 simp only[e1,e2]
def YP {s b:ByteArray} {i:Nat} (h:s.size<=i) (hn:47∉(toL s).take i):addrOf s b=⟨b,s⟩:=by
 rw[ci (by rw[AN];exact h)] at hn;unfold addrOf;rw[Nc hn]
def WP {b:UInt8}:∀ {l p q:List UInt8},Ge b l=some (p,q)->p.length<=l.length/\q.length<=l.length
 | [],p,q,h=>by cases h
 | x::l,p,q,h=>by
  rw[Ge] at h;split at h
  ·simp_all
  ·obtain⟨r,hr,he⟩:=Option.map_eq_some_iff.1 h;simp only[bP] at he;obtain⟨rfl,rfl⟩:=he;have:=WP (p:=r.1) (q:=r.2) hr;grind
def ML (s b:ByteArray):(addrOf s b).host.size<=s.size+b.size/\(addrOf s b).path.size<=s.size:=by
 unfold addrOf;cases h:Ge 47 (toL s) with
 | none=>exact⟨by simp only;omega,Y_ _⟩
 | some r=>
  have:=WP (p:=r.1) (q:=r.2) h;rw[AN] at this;simp only[Dd];omega
def Ph (b:ByteArray):parseAddr ⟨#[]⟩ b=(default,false):=by
 unfold parseAddr;have:addrOf ⟨#[]⟩ b=⟨b,⟨#[]⟩⟩:=rfl;rw[this,F_];rw[show isName ⟨#[]⟩=false from rfl,Bool.and_false];decide
abbrev BE:Fct:=⟨[.v (.el .str),.v (.el .str)],[.el .addr,.el .bool],λ(x:dx)=>x.1.size<=4000000000/\x.2.1.size<=4000000000,λ(x:dx)=>((parseAddr x.1 x.2.1).1,(parseAddr x.1 x.2.1).2,())⟩
def AgO {s:ByteArray} {i:Nat}:((s.data.getD i 0).toNat:Int)=47↔s.data.getD i 0=47:=Qa (b:=47) o_ o_
abbrev Cq (s:ByteArray) (b:ByteArray):LInv:=⟨[⟨.b,6,true,.el .addr⟩,⟨.s,7,true,.el .int⟩,⟨.b,4,true,.el .addr⟩],λ(z x:fm)=>(0<=x.2.1/\x.2.1<=s.size/\x.1=⟨b,s⟩/\47∉(toL s).take x.2.1.toNat)/\x.2.2.1=z.2.2.1,λ(x:fm)=>s.size-x.2.1.toNat⟩
def AmR:=AmV.a BE<|Fct.p (KP [0,1,4,5,6,7] [14,20,31]) (λ⟨s,b,_⟩=>lv [(3,Cq s b)]) AmV.2 func194 (by
 rintro⟨(s:ByteArray),(b:ByteArray),_⟩ hp;refine ho (lpx (Cq s b) ((⟨b,s⟩:FS),((0:Int),(default,()))) λ(y1:fm) bk1=>.br (decide (y1.2.1<(s.size:Int))) (.ob (0<=y1.2.1/\y1.2.1<(s.size:Int))<|.br ((↑(s.data.getD y1.2.1.toNat 0).toNat:Int)==47) (.ob (0<=y1.2.1/\y1.2.1<=(s.size:Int))<|.ob (0<=w1 y1.2.1/\w1 y1.2.1<=(s.size:Int))<|.cl F4 ((⟨s.extract 0 y1.2.1.toNat,s.extract (w1 y1.2.1).toNat s.size⟩:FS),()) λz2=>.br (!z2.1) (.lf BE (default,false,())) (.lf BE (⟨s.extract 0 y1.2.1.toNat,s.extract (w1 y1.2.1).toNat s.size⟩,true,()))) (.re (Value.string s)<|.re (Value.string b)<|.bk (bk1 (y1.1,(w1 y1.2.1,(y1.2.2.1,())))))) (.cl F4 (y1.1,()) λz3=>.br (!z3.1) (.lf BE (default,false,())) (.lf BE (y1.1,true,())))) ?_;refine Aq ?_ λ(y1:fm) i1=>Aa (λh2=>Ac ?_ λ_=>Aa (λh4=>Ac ?_ λ_=>Ac ?_ λ_=>Aj ?_ λ_=>Aa (λh8=>lfY ?_) λh8=>lfY ?_) λh4=>An<|An<|AR ?_) (λh2=>Aj ?_ λ_=>Aa (λh11=>lfY ?_) λh11=>lfY ?_)<;>have hz:=ML s b<;>(try obtain⟨⟨a1,a2,a3,a4⟩,a5⟩:=i1)<;>(try simp only[AA] at *)<;>(try simp only[std,Nat.reduceAdd,parseAddr,AgO] at *)<;>(try simp(disch:=omega) only[A_,C_] at *)<;>(try simp(disch:=omega) only[G_,F_])<;>(try have e:=Yt (b:=b) (show y1.2.1.toNat<s.size from o_) h4 a4;simp only[e] at *)<;>(try have t:=Aa5 (show y1.2.1.toNat<s.size from o_) h4 a4)<;>(try have e:=YP (b:=b) (show s.size<=y1.2.1.toNat from o_) a4;simp only[e] at *)<;>(first|trivial|omega|grind[ByteArray.size_extract]))
def findAttr (l:List cU) (n:ByteArray):Option ByteArray:=(l.find? λa=>decide (a.name=n)).map (·.value)
abbrev AM:Fct:=⟨[.v (.sl .attr),.v (.el .str)],[.el .str,.el .bool],λ(x:gJ)=>x.1.length<=1000000000000,λ(x:gJ)=>((findAttr x.1 x.2.1).getD ⟨#[]⟩,(findAttr x.1 x.2.1).isSome,())⟩
abbrev Bv (l:(List cU)) (n:ByteArray):LInv:=⟨[⟨.s,6,true,.el .int⟩],λ_ (x:E_)=>0<=x.1/\x.1<=l.length/\findAttr (l.drop x.1.toNat) n=findAttr l n,λ(x:E_)=>l.length-x.1.toNat⟩
end Go.Proofs.YtfklkhgmgglloaaGreat.fnOthersLearn
