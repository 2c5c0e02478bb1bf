/-
  Contracts of functions that the law of FnRightUses reaches, part 1.
-/
import Derived.Test.YtfklkhgmgglloaaGreatDoorVLe
import Derived.WalkKit
import Derived.BigGuard
import Derived.Deep.QuietTactic
import Derived.BigQuiet
import Derived.Lib.ConvBytes
import Derived.Sort.WalkC
import Derived.Test.YtfklkhgmgglloaaGreatDoorRows
import Derived.Test.YtfklkhgmgglloaaGreatDoorCards
import Derived.LaidMore
import Derived.Lay
import Derived.SevenTiedAt
import Derived.ProofKit
import Derived.OpenShut
namespace Go.Proofs.YtfklkhgmgglloaaGreatDoor.fnRightUses
open Go.Proofs.YtfklkhgmgglloaaGreatDoor
open Go.D Go.Proofs.Tryz
set_option maxRecDepth 100000
set_option maxHeartbeats 2000000
set_option linter.defProp false
set_option linter.unusedVariables false
set_option linter.unusedSimpArgs false
def tyOf:TypeId->Option Ty
 | 3=>some .int
 | 4=>some .bool
 | 5=>some .u8
 | 9=>some .str
 | 27=>some .cache
 | 30=>some .net
 | 32=>some .addr
 | 38=>some .bm
 | 40=>some .tokenizer
 | 44=>some .ba
 | 49=>some .page
 | 70=>some .loader
 | 75=>some .bd
 | 85=>some .request
 | 88=>some .slot
 | 90=>some .module
 | 118=>some .sent
 | 151=>some .server
 | 154=>some .file
 | 160=>some .entry
 | 165=>some .node
 | 174=>some .token
 | 215=>some .attr
 | 246=>some .line
 | 253=>some .sheet
 | 271=>some .conn
 | 274=>some .guess
 | 293=>some .rule
 | _=>none
abbrev Eo:={ E:D.Env // EOk Tryz.prog E }
def Eo.a (e:Eo) (S:Fct) {f:Nat} (k:S.ok Tryz.prog f):Eo:=⟨e.1.add f S,e.2.add k⟩
def Eo.G (e:Eo) (S:GS) {f:Nat} (k:S.ok Tryz.prog f):Eo:=⟨e.1.addG f S,e.2.addG k⟩
def Eo.X (e:Eo) (S:Xct) {f:Nat} (k:S.ok Tryz.prog f):Eo:=⟨e.1.addX f S,e.2.addX k⟩
def Eo.N (e:Eo) {f:Nat} (k:Vo Tryz.prog f):Eo:=⟨e.1.addN f,e.2.addN k⟩
abbrev eA:=List ao×Unit
abbrev aR:=Int×Int×Unit
abbrev eh:=Int×HO×Unit
abbrev D_:=Int×Unit
abbrev fD:=List ao×Int×Unit
abbrev fE:=Int×List ao×Unit
abbrev ar:=M_×Unit
abbrev gO:=List ao×HO×M_×Bool×Unit
abbrev gP:=List ax×List HO×Unit
abbrev fF:=List ax×Int×Unit
abbrev dC:=List ByteArray×ByteArray×Unit
abbrev ae:=A_×Unit
abbrev dD:=Int×Int×A_×Unit
abbrev fM:=A_×List ax×Unit
abbrev eI:=List bv×Unit
abbrev bR:=N_×Unit
abbrev eJ:=List ai×Int×Unit
abbrev eK:=am×Int×am×am×Unit
abbrev bw:=aA×Unit
abbrev dl:=List HO×Unit
abbrev eL:=Int×List HO×Unit
abbrev eN:=Int×Int×List HO×Unit
abbrev dE:=Int×A_×Unit
abbrev bE:=A_×HO×Unit
abbrev eO:=Int×A_×HO×Unit
abbrev fN:=ByteArray×List Int×Unit
abbrev dF:=List ByteArray×Int×Int×Unit
abbrev fO:=Bool×Int×List ByteArray×Int×Int×Unit
abbrev E_:=ByteArray×Unit
abbrev aj:=HO×Unit
abbrev bS:=List ByteArray×Unit
abbrev fP:=aA×Int×ByteArray×Unit
abbrev eP:=ax×Unit
abbrev fQ:=aA×ax×Unit
abbrev bG:=List V_×Unit
abbrev eQ:=List V_×Int×Unit
abbrev cA:=aZ×Unit
abbrev bH:=P_×Unit
abbrev fS:=List V_×ByteArray×Unit
abbrev eR:=V_×ByteArray×Unit
abbrev dG:=Int×V_×Unit
abbrev fT:=List V_×HO×Unit
abbrev fU:=aZ×ByteArray×HO×Unit
abbrev fV:=Int×aZ×HO×Unit
abbrev fW:=bJ×ByteArray×HO×Unit
abbrev fX:=aZ×ByteArray×HO×Int×Unit
abbrev fY:=Int×aZ×HO×M_×Unit
abbrev fZ:=bJ×ByteArray×HO×Int×Unit
abbrev ak:=List Int×Unit
abbrev bL:=List Int×Int×Unit
abbrev aa:=ByteArray×Int×Unit
abbrev S_:=Unit×Unit
abbrev aC:=Unit×Int×Unit
abbrev W_:=Bool×Unit
abbrev dB:=Unit×List ByteArray×Unit
abbrev ga:=ByteArray×List ByteArray×Unit
abbrev eS:=List ByteArray×Int×List ByteArray×Unit
abbrev eT:=M_×M_×Unit
abbrev eU:=List bv×HO×Unit
abbrev gf:=List bv×HO×M_×Unit
abbrev dH:=Int×aZ×Unit
abbrev gh:=aZ×ByteArray×HO×M_×Int×Unit
abbrev gj:=P_×ByteArray×HO×M_×Unit
abbrev gk:=P_×ByteArray×HO×Bool×Unit
abbrev gm:=P_×HO×List Int×Unit
abbrev cU:=ByteArray×ByteArray×Unit
abbrev eV:=aA×ax×M_×Unit
abbrev gn:=P_×ByteArray×HO×Unit
abbrev cc:=A_×Int×Unit
abbrev eW:=HO×Int×HO×Unit
abbrev gp:=List cW×ByteArray×Unit
abbrev gq:=ai×ByteArray×Unit
abbrev gu:=List ai×ByteArray×Unit
abbrev gw:=List HO×Int×A_×List ax×Unit
abbrev eX:=Int×N_×N_×N_×List HO×Unit
abbrev ei:=ai×Int×ai×List ByteArray×Unit
abbrev gx:=dv×ByteArray×Unit
abbrev eY:=List ai×ByteArray×dv×Unit
abbrev dI:=A_×ByteArray×Unit
abbrev eZ:=am×Int×Unit
abbrev gy:=ByteArray×Int×am×Unit
abbrev e7:=am×ByteArray×Unit
abbrev gA:=Int×Int×am×Unit
abbrev gB:=List bF×ByteArray×Unit
abbrev e8:=Int×bU×List ByteArray×Unit
abbrev fe:=List bU×Int×List ByteArray×Unit
abbrev gD:=am×List bF×bU×Unit
abbrev gE:=am×List bF×List bU×Unit
abbrev fg:=am×ByteArray×List ByteArray×Int×am×Unit
abbrev fh:=bF×Int×bF×List ByteArray×Unit
abbrev bV:=List Int×Int×A_×Unit
abbrev gF:=aA×ByteArray×Unit
abbrev fi:=List bF×Int×A_×Unit
abbrev gG:=A_×ByteArray×Bool×Unit
abbrev fj:=A_×Int×A_×List ByteArray×Unit
abbrev fk:=Int×am×am×Unit
abbrev gH:=A_×Int×ByteArray×ByteArray×Int×Unit
abbrev gJ:=A_×Int×M_×Unit
abbrev fm:=Int×A_×HO×A_×A_×Unit
abbrev gK:=A_×ai×Int×Unit
abbrev dP:=List HO×ByteArray×Unit
abbrev aG:=List HO×List HO
abbrev eB:=A_×HO×List HO×List HO×Unit
abbrev dQ:=List HO×List HO×Int×A_×HO×List HO×Unit
abbrev cd:=Int×A_×List HO×Unit
abbrev ce:=A_×Int×A_×List HO×Unit
abbrev dR:=A_×Int×List ByteArray×List HO×A_×Unit
abbrev dS:=A_×Int×A_×Unit
abbrev cQ:=A_×HO×M_×Unit
abbrev dT:=A_×Int×A_×HO×M_×A_×Unit
abbrev cg:=List ax×Int×A_×List Int×Unit
abbrev ci:=List HO×Int×Unit
abbrev cj:=N_×Int×Unit
abbrev dU:=Int×N_×N_×ao×List ax×Unit
abbrev dV:=N_×Int×N_×N_×Unit
abbrev dW:=Int×N_×N_×Unit
abbrev aV:=N_×Int×N_×Unit
abbrev di:=P_×HO×List Int×List Int×Unit
abbrev dX:=Int×Int×V_×Unit
abbrev dM:=List V_×HO×M_×Unit
abbrev U_:=List V_×Bool×Unit
abbrev bY:=List V_×Int×List ByteArray×Unit
abbrev bZ:=List V_×Int×List ByteArray×List ByteArray×Unit
abbrev cp:=aZ×Int×aZ×Unit
abbrev bA:=P_×Int×P_×Unit
abbrev dY:=P_×P_×Unit
abbrev ca:=P_×Int×List ByteArray×P_×Unit
abbrev dj:=P_×HO×Unit
abbrev dN:=P_×A_×Int×HO×P_×A_×Unit
abbrev fA:=P_×A_×ax×Bool×Int×ByteArray×Unit
abbrev dO:=P_×A_×Int×Unit
abbrev bT:=P_×A_×Unit
abbrev af:=Int×Int×P_×A_×Unit
def E0:Eo:=⟨D.Env.empty tyOf,EOk.empty _ _⟩
def countGuess:List ao->Nat
 | []=>0
 | c::l=>countGuess l+(if c.guess then 1 else 0)
def Qj (l:List ao):countGuess l<=l.length:=by
 induction l with
 | nil=>simp[countGuess]
 | cons d l ih=>simp only[countGuess,aw];split<;>omega
abbrev Adr:Fct:=⟨[.v (.sl .conn)],[.el .int],λ(x:eA)=>x.1.length<=1048576,λ(x:eA)=>((countGuess x.1:Int),())⟩
abbrev Bq (l:(List ao)):LInv:=⟨[⟨.s,3,true,.el .int⟩,⟨.s,4,true,.el .int⟩],λ_ (x:aR)=>0<=x.2.1/\x.2.1<=l.length/\0<=x.1/\x.1<=x.2.1/\x.1+countGuess (l.drop x.2.1.toNat)=countGuess l,λ(x:aR)=>l.length-x.2.1.toNat⟩
def E1:=E0.a Adr<|Fct.p (KP [0,2,3,4] [8,15]) (λ⟨l,_⟩=>lv [(3,Bq l)]) E0.2 func183 (λ⟨(l:List ao),_⟩ hp=>hg (.lq (Int×Int×PUnit) (Bq l).inv (Bq l).m ((0:Int),((0:Int),())) λy1 bk1=>.br (decide (y1.2.1<(l.length:Int))) (.ob (inB y1.2.1 l.length)<|.br ((l.getD y1.2.1.toNat default).guess) (.re (l)<|.re (Value.int IntKind.i64 (0:Int))<|.bk (bk1 (w1 y1.1,(w1 y1.2.1,())))) (.re (l)<|.re (Value.int IntKind.i64 (0:Int))<|.bk (bk1 (y1.1,(w1 y1.2.1,()))))) (.lf Adr (y1.1,()))) (an_ @countGuess.eq_1<|@countGuess.eq_2))
def findC (a:HO):List ao->Int->Int
 | [],_=>-1
 | c::l,i=>if c.to=a then i else findC a l (i+1)
def Np {a:HO} {l:List ao} {i:Nat} {z:Int} (h:i<l.length):findC a (l.drop i) z=if(l.getD i default).to=a then z else findC a (l.drop (i+1)) (z+1):=by rw[B_ h];rfl
def R7 {a:HO} {l:List ao} {i:Nat} {z:Int} (h:l.length<=i):findC a (l.drop i) z = -1:=by rw[cx h];rfl
def Ahz (x y:HO):(x.host==y.host&&(x.path==y.path&&true))=decide (x=y):=DP x y
abbrev AaR:Fct:=⟨[aL .conn,aE .addr],[rI],λ(x:List ao×HO×Unit)=>x.1.length<=1048576,λx=>(findC x.2.1 x.1 0,())⟩
abbrev Lfind (l:List ao) (a:HO):LInv:=⟨[⟨.s,5,true,.el .int⟩,⟨.b,3,true,.el .addr⟩],λ_ (x:eh)=>0<=x.1/\x.1<=l.length/\x.2.1=a/\findC a l 0=findC a (l.drop x.1.toNat) x.1,λ(x:eh)=>l.length-x.1.toNat⟩
def E2:=E1.a AaR<|Fct.p (KP [0,3,4,5] [9,18]) (λ⟨l,a,_⟩=>lv [(2,Lfind l a)]) E1.2 func186 (by
 rintro⟨(l:List ao),(a:HO),_⟩ hp;refine ho (lpx (Lfind l a) ((0:Int),(a,())) λ(y1:eh) bk1=>.br (decide (y1.1<(l.length:Int))) (.ob (inB y1.1 l.length)<|.br ((l.getD y1.1.toNat default).to.host==y1.2.1.host&&((l.getD y1.1.toNat default).to.path==y1.2.1.path&&true)) (.lf AaR (y1.1,())) (.ob (l=l)<|.ob (bk1 (w1 y1.1,(y1.2.1,())))<|.ok)) (.lf AaR ((-1:Int),()))) ?_;refine Ay ?_ λ(y1:eh) i1=>Z (λh2=>Ad ?_ λ_=>Z (λh4=>Y ?_) λh4=>Ad rfl λ_=>Ad ?_ λ_=>trivial) (λh2=>Y ?_)<;>(try simp only[Lfind,std,Nat.reduceAdd] at *)<;>(try simp only[Ahz,az,cw] at *)
 .first|omega|exact⟨O,O,by simp⟩
 .omega
 .rw[Np O,G_ (h4.trans i1.2.2.1)] at i1;exact i1.2.2.2.symm
 .rw[Np O,F_ λh=>h4 (h.trans i1.2.2.1.symm)] at i1;have hn:l.length<=1048576:=hp;rw[AE O,C_ O];exact⟨⟨O,O,i1.2.2.1,i1.2.2.2⟩,O⟩
 .rw[R7 O] at i1;exact i1.2.2.2.symm)
def fir:List ao->Int->Int
 | [],_=>-1
 | c::l,i=>if c.left<=0 then i else fir l (i+1)
def LU {l:List ao} {i:Nat} {z:Int} (h:i<l.length):fir (l.drop i) z=if(l.getD i default).left<=0 then z else fir (l.drop (i+1)) (z+1):=by rw[B_ h];rfl
def Qc {l:List ao} {i:Nat} {z:Int} (h:l.length<=i):fir (l.drop i) z = -1:=by rw[cx h];rfl
abbrev Wm:Fct:=⟨[aL .conn],[rI],λ(x:eA)=>x.1.length<=1048576,λx=>(fir x.1 0,())⟩
abbrev Lfirst (l:List ao):LInv:=⟨[⟨.s,3,true,.el .int⟩],λ_ (x:D_)=>0<=x.1/\x.1<=l.length/\fir l 0=fir (l.drop x.1.toNat) x.1,λ(x:D_)=>l.length-x.1.toNat⟩
def E3:=E2.a Wm<|Fct.p (KP [0,2,3] [7,15]) (λ⟨l,_⟩=>lv [(2,Lfirst l)]) E2.2 func188 (by
 rintro⟨(l:List ao),_⟩ hp;refine ho (lpx (Lfirst l) ((0:Int),()) λ(y1:D_) bk1=>.br (decide (y1.1<(l.length:Int))) (.ob (inB y1.1 l.length)<|.br (decide ((l.getD y1.1.toNat default).left<=0)) (.lf Wm (y1.1,())) (.ob (l=l)<|.ob (bk1 (w1 y1.1,()))<|.ok)) (.lf Wm ((-1:Int),()))) ?_;refine Ay ?_ λ(y1:D_) i1=>Z (λh2=>Ad ?_ λ_=>Z (λh4=>Y ?_) λh4=>Ad rfl λ_=>Ad ?_ λ_=>trivial) (λh2=>Y ?_)<;>(try simp only[Lfirst,std,Nat.reduceAdd] at *)<;>(try simp only[Ahz,az,cw] at *)
 .first|omega|exact⟨O,O,by simp⟩
 .omega
 .rw[LU O,G_ h4] at i1;exact i1.2.2.symm
 .rw[LU O,F_ O] at i1;have hn:l.length<=1048576:=hp;rw[AE O,C_ O];exact⟨⟨O,O,i1.2.2⟩,O⟩
 .rw[Qc O] at i1;exact i1.2.2.symm)
def inRange (n lo hi:Int):Bool:=decide (lo<=n)&&decide (n<=hi)
abbrev Ap:Fct:=⟨[aI,aI,aI],[rB],λ_=>True,λ(x:Int×Int×Int×Unit)=>(inRange x.1 x.2.1 x.2.2.1,())⟩
def E4:=E3.a Ap<|Fct.o [0,1,2,6] E3.2 func190 (by
 rintro⟨(n:Int),(lo:Int),(hi:Int),_⟩ hp;refine ho (.br (decide (lo<=n)) (.lf Ap (decide (n<=hi),())) (.lf Ap (false,()))) ?_;refine Z (λh1=>Y ?_) λh1=>Y ?_;all_goals try simp only[std,Nat.reduceAdd,inRange] at *
 all_goals first|trivial|(simp_all;done)|(simp_all;omega)|grind)
def E5:=E4.a Ap<|Fct.o [0,1,2,6] E4.2 func83 (by
 rintro⟨(n:Int),(lo:Int),(hi:Int),_⟩ hp;refine ho (.br (decide (n>=lo)) (.lf Ap (decide (n<=hi),())) (.lf Ap (false,()))) ?_;refine Z (λh1=>Y ?_) λh1=>Y ?_;all_goals try simp only[std,Nat.reduceAdd,inRange] at *
 all_goals first|trivial|(simp_all;done)|(simp_all;omega)|grind)
abbrev Akt:Fct:=⟨[aI,aI],[rI],λ_=>True,λ(x:aR)=>(max x.1 x.2.1,())⟩
def E6:=E5.a Akt<|Fct.o (KP [0,1,4] [7]) E5.2 func99 (by
 rintro⟨(a:Int),(b:Int),_⟩ hp;refine ho (.br (decide (b>a)) (.lf Akt (b,())) (.lf Akt (a,()))) ?_;refine Z (λh1=>Y ?_) λh1=>Y ?_;all_goals try simp only[std,Nat.reduceAdd] at *
 all_goals first|trivial|omega|(simp_all;done)|(simp_all;omega)|grind)
abbrev Aku:Fct:=⟨[aL .conn],[rL .conn],λ(x:eA)=>x.1.length<=1048576,λ(x:eA)=>(x.1,())⟩
def moveO (b:Int) (c:ao):ao:={ c with left:=max 0 (IntKind.i64.wrap (c.left-b))}
def mov (l:List ao) (b:Int):List ao:=if inRange b 0 1000 then l.map (moveO b) else l
abbrev Af3:Fct:=⟨[aL .conn,aI],[rL .conn],λ(x:fD)=>x.1.length<=1048576,λ(x:fD)=>(mov x.1 x.2.1,())⟩
abbrev L45 (l:List ao) (b:Int):LInv:=⟨[⟨.s,6,true,.el .int⟩,⟨.s,5,true,.sl .conn⟩],λ_ (x:fE)=>0<=x.1/\x.1<=l.length/\x.2.1=mov (l.take x.1.toNat) b++l.drop x.1.toNat,λ(x:fE)=>l.length-x.1.toNat⟩
def Dm (l:List ao) (b:Int):(mov l b).length=l.length:=by unfold mov;split<;>simp
def Re (b:Int):mov [] b=[]:=by unfold mov;split<;>rfl
def Ox {l:List ao} {b:Int} {i:Nat} (hb:inRange b 0 1000=true) (h:i<l.length) {g:ao->ao} (hg:g (l.getD i default)=moveO b (l.getD i default)):(mov (l.take i) b++l.drop i).modify i g=mov (l.take (i+1)) b++l.drop (i+1):=by
 rw[B_ h,ZQ (by rw[Dm,cZ];omega),Q_ h];simp only[mov,hb,aD,fu,aY,List.map_nil,bK,cy,eH,hg]
def Rx {l:List ao} {b:Int} {i:Nat} (hb:inRange b 0 1000=false):mov (l.take i) b++l.drop i=mov l b:=by
 simp[mov,hb]
def E7:=E6.a Af3<|Fct.p (KP [0,1,4,5,6] [17]) (λ⟨l,b,_⟩=>lv [(3,L45 l b)]) E6.2 func187 (by
 rintro⟨(l:List ao),(b:Int),_⟩ hp;refine ho (.ob (True)<|.ob (IM (0+l.length) 112)<|lpx (L45 l b) ((0:Int),([]++l,())) λ(y2:fE) bk2=>.br (decide (y2.1<(l.length:Int))) (.cl Ap (b,(0:Int),(1000:Int),()) λz2=>.br (z2.1) (.ob (inB y2.1 l.length)<|.cl Akt ((0:Int),wr ((l.getD y2.1.toNat default).left-b),()) λ(z3:D_)=>.ob (inB y2.1 y2.2.1.length)<|.ob (y2.1.toNat<y2.2.1.length)<|.lt (List ao) (y2.2.1.modify y2.1.toNat λz=>(⟨z.to,z3.1,z.guess,z.bd⟩:ao)) λz4=>.ob (l=l)<|.ob (Value.int IntKind.i64 b=Value.int IntKind.i64 b)<|.ob (bk2 (w1 y2.1,(z4,())))<|.ok) (.lf Af3 (y2.2.1,()))) (.lf Af3 (y2.2.1,()))) ?_;refine Ad trivial λ_=>Ad ?_ λ_=>Ay ?_ λ(y2:fE) i2=>Z (λh3=>Ai trivial λ_=>Z (λh4=>Ad ?_ λ_=>Ai trivial λ_=>Ad ?_ λ_=>Ad ?_ λ_=>K6 (Ad rfl λ_=>Ad rfl λ_=>Ad ?_ λ_=>trivial)) λh4=>Y ?_) (λh3=>Y ?_)<;>(try simp only[L45,std,Nat.reduceAdd] at *)<;>(try have hln:y2.2.1.length=l.length:=by rw[i2.2.2,al,Dm,cZ,fK];omega)
 .omega
 .exact⟨O,O,by simp[Re]⟩
 .omega
 .omega
 .omega
 .rw[AE O,C_ O,i2.2.2,Ox h4 O (by simp[moveO,Akt])];exact⟨⟨O,O,rfl⟩,O⟩
 .rw[i2.2.2,Rx h4]
 .rw[i2.2.2,cC O,cx O,cS])
def siz (x:M_):Int:=x.body.size+20
abbrev Hx:Fct:=⟨[aE .bd],[rI],λ(x:ar)=>x.1.body.size<=1000000000000,λ(x:ar)=>(siz x.1,())⟩
def E8:=E7.a Hx<|Fct.o [1,2] E7.2 func229 (by
 rintro⟨(x:M_),_⟩ hp;refine ho (.lf Hx (wr ((x.body.size:Int)+20),())) ?_;refine Y ?_;all_goals try simp only[std,Nat.reduceAdd,siz] at *
 rw[AE O])
def ope (l:List ao) (a:HO) (x:M_) (g:Bool):List ao×Bool:=if(l.length:Int)>=3\/findC a l 0>=0 then(l,false) else(l++[⟨a,siz x,g,x⟩],true)
abbrev Zh:Fct:=⟨[aL .conn,aE .addr,aE .bd,aB],[rL .conn,rB],λ(x:gO)=>x.1.length<=1048576/\x.2.2.1.body.size<=1048576,λ(x:gO)=>((ope x.1 x.2.1 x.2.2.1 x.2.2.2.1).1,(ope x.1 x.2.1 x.2.2.1 x.2.2.2.1).2,())⟩
def E9:=E8.a Zh<|Fct.o (KP [0,3,5,6,8,9,10] [22]) E8.2 func181 (by
 rintro⟨(l:List ao),(a:HO),(x:M_),(g:Bool),_⟩ hp;refine ho (.ap (0+List.length l) 112<|.br (decide ((↑(List.length l):Int)>=3)) (.lf Zh ([]++l,false,())) (.cl AaR (l,a,()) λ(z2:D_)=>.br (decide (z2.1>=0)) (.lf Zh ([]++l,false,())) (.cl Hx (x,()) λ(z3:D_)=>.ap (([]++l).length+[(⟨a,z3.1,g,x⟩:ao)].length) 112<|.lf Zh ([]++l++[(⟨a,z3.1,g,x⟩:ao)],true,())))) ?_;refine FB ?_ λ_=>Z (λh2=>Y ?_) (λh2=>Ai ?_ λ_=>Z (λh4=>Y ?_) λh4=>Ai ?_ λ_=>FB ?_ λ_=>Y ?_)<;>(have hp1:l.length<=1048576:=hp.1;have hp3:x.body.size<=1048576:=hp.2;clear hp;try simp only[WJ] at *)<;>(try simp only[std,Nat.reduceAdd,al,aw,bz] at *)<;>(first|trivial|omega|(simp[ope,h2];done)|(simp[ope,h4];done)|(have hh:¬ ((3:Int)<=(l.length:Int)\/0<=findC a l 0):=by omega;simp[ope,hh];done)|skip)<;>(rw[ope,F_ (show ¬ ((l.length:Int)>=3\/findC a l 0>=0) by rintro(h|h)<;>omega)];exact⟨rfl,rfl⟩))
abbrev Gw:Fct:=⟨[.v (.sl .addr),.v (.el .addr)],[.el .bool],λ(x:(List HO)×HO×Unit)=>x.1.length<=1000000000000000000,λ(x:(List HO)×HO×Unit)=>(x.1.any λc=>decide (c=x.2.1),())⟩
abbrev B6 (l:(List HO)) (a:HO):LInv:=⟨[⟨.s,5,true,.el .int⟩,⟨.b,3,true,.el .addr⟩],λ(z x:eh)=>(0<=x.1/\x.1<=l.length/\l.any (λc=>decide (c=a))=(l.drop x.1.toNat).any λc=>decide (c=a))/\x.2.1=z.2.1,λ(x:eh)=>l.length-x.1.toNat⟩
def E10:=E9.a Gw<|Fct.p (KP [0,3,4,5] [9,17]) (λ⟨l,a,_⟩=>lv [(2,B6 l a)]) E9.2 func39 (λ⟨(l:List HO),(a:HO),_⟩ hp=>hq (.lq (Int×HO×PUnit) (B6 l a).inv (B6 l a).m ((0:Int),(a,())) λy1 bk1=>.br (decide (y1.1<(l.length:Int))) (.ob (inB y1.1 l.length)<|.br ((l.getD y1.1.toNat default).host==y1.2.1.host&&((l.getD y1.1.toNat default).path==y1.2.1.path&&true)) (.lf Gw (true,())) (.re (l)<|.bk (bk1 (w1 y1.1,(y1.2.1,()))))) (.lf Gw (false,()))))
def withoutAddrs (d:List HO):List ax->List ax
 | []=>[]
 | r::l=>if d.any (λc=>decide (c=r.to)) then withoutAddrs d l else r::withoutAddrs d l
abbrev HB:Fct:=⟨[.v (.sl .request),.v (.sl .addr)],[.sl .request],λ(x:gP)=>x.1.length<=1000000000000/\x.2.1.length<=1048576,λ(x:gP)=>(withoutAddrs x.2.1 x.1,())⟩
abbrev A5 (l:(List ax)) (d:(List HO)):LInv:=⟨[⟨.s,5,true,.sl .request⟩,⟨.s,6,true,.el .int⟩],λ_ (x:fF)=>0<=x.2.1/\x.2.1<=l.length/\x.1.length<=x.2.1/\withoutAddrs d l=x.1++withoutAddrs d (l.drop x.2.1.toNat),λ(x:fF)=>l.length-x.2.1.toNat⟩
def E11:=E10.a HB<|Fct.p (KP [0,1,4,5,6] [11,21]) (λ⟨l,d,_⟩=>lv [(3,A5 l d)]) E10.2 func177 (λ⟨(l:List ax),(d:List HO),_⟩ hp=>hg (.lq (List ax×Int×PUnit) (A5 l d).inv (A5 l d).m ([],((0:Int),())) λy1 bk1=>.br (decide (y1.2.1<(l.length:Int))) (.ob (inB y1.2.1 l.length)<|.cl Gw (d,(l.getD y1.2.1.toNat default).to,()) λz2=>.br (!z2.1) (.ob (inB y1.2.1 l.length)<|.ap (y1.1.length+[l.getD y1.2.1.toNat default].length) 72<|.re (l)<|.re (d)<|.bk (bk1 (y1.1++[l.getD y1.2.1.toNat default],(w1 y1.2.1,())))) (.re (l)<|.re (d)<|.bk (bk1 (y1.1,(w1 y1.2.1,()))))) (.lf HB (y1.1,()))) (an_ @withoutAddrs.eq_1<|@withoutAddrs.eq_2))
def L5 (d:List HO) (l:List ax):(withoutAddrs d l).length<=l.length:=by
 induction l<;>grind[withoutAddrs]
abbrev I7:Fct:=⟨[.v (.sl .str),.v (.el .str)],[.el .int],λ(x:dC)=>x.1.length<=1000000000000000000,λ(x:dC)=>(fidx (λc=>decide (c=x.2.1)) x.1 0,())⟩
abbrev AL (l:(List ByteArray)) (a:ByteArray):LInv:=⟨[⟨.s,8,true,.el .int⟩],λ_ (x:D_)=>0<=x.1/\x.1<=l.length/\fidx (λc=>decide (c=a)) l 0=fidx (λc=>decide (c=a)) (l.drop x.1.toNat) x.1,λ(x:D_)=>l.length-x.1.toNat⟩
def E12:=E11.a I7<|Fct.p (KP [0,1,4,5,7,8] [9,16]) (λ⟨l,a,_⟩=>lv [(2,AL l a)]) E11.2 func235 (λ⟨(l:List ByteArray),(a:ByteArray),_⟩ hp=>hg (.lq (Int×PUnit) (AL l a).inv (AL l a).m ((0:Int),()) λy1 bk1=>.br (decide (y1.1<(l.length:Int))) (.ob (inB y1.1 l.length)<|.br (a.toList==(l.getD y1.1.toNat default).toList) (.lf I7 (y1.1,())) (.re (l)<|.re (Value.string a)<|.re (Value.int IntKind.i64 (l.length:Int))<|.bk (bk1 (w1 y1.1,())))) (.lf I7 ((-1:Int),()))) (an_ @fidx.eq_1<|@fidx.eq_2))
abbrev EA:Fct:=⟨[.v (.sl .str),.v (.el .str)],[.el .bool],λ(x:dC)=>x.1.length<=1000000000000000000,λ(x:dC)=>(x.1.any λc=>decide (c=x.2.1),())⟩
def E13:=E12.a EA<|Fct.o [0,1,4] E12.2 func194 (by
 rintro⟨(l:List ByteArray),(a:ByteArray),_⟩ hp;refine ho (.cl I7 (l,a,()) λ(z2:D_)=>.lf EA (decide (z2.1>=0),())) ?_;refine Ai ?_ λ_=>(Y ?_)<;>(try simp only[std,Nat.reduceAdd] at *)<;>(first|trivial|omega|(rw[Bool.eq_iff_iff];exact decide_eq_true_iff.trans (GT _ _ _ O))))
abbrev VZ:Fct:=⟨[.v (.sl .str),.v (.el .str)],[.el .bool],λ(x:dC)=>x.1.length<=1000000000000000000,λ(x:dC)=>(x.1.any λc=>decide (c=x.2.1),())⟩
abbrev Dp (l:(List ByteArray)) (s:ByteArray):LInv:=⟨[⟨.s,5,true,.el .int⟩],λ_ (x:D_)=>0<=x.1/\x.1<=l.length/\l.any (λc=>decide (c=s))=(l.drop x.1.toNat).any λc=>decide (c=s),λ(x:D_)=>l.length-x.1.toNat⟩
def E14:=E13.a VZ<|Fct.p (KP [0,1,4,5] [9,17]) (λ⟨l,s,_⟩=>lv [(2,Dp l s)]) E13.2 func250 (λ⟨(l:List ByteArray),(s:ByteArray),_⟩ hp=>hq (.lq (Int×PUnit) (Dp l s).inv (Dp l s).m ((0:Int),()) λy1 bk1=>.br (decide (y1.1<(l.length:Int))) (.ob (inB y1.1 l.length)<|.br ((l.getD y1.1.toNat default).toList==s.toList) (.lf VZ (true,())) (.re (l)<|.re (Value.string s)<|.bk (bk1 (w1 y1.1,())))) (.lf VZ (false,()))))
abbrev JG:Fct:=⟨[.v (.el .page)],[.el .bool],λ(x:ae)=>True,λ(x:ae)=>(x.1.loaded,())⟩
def E15:=E14.a JG<|Fct.o [1,2] E14.2 func101 (by
 rintro⟨(p:A_),_⟩ hp;refine ho (.lf JG (p.loaded,())) ?_;refine Y ?_;all_goals try simp only[std,Nat.reduceAdd] at *
 all_goals first|trivial|omega|(simp_all;done)|(simp_all;omega)|grind)
def blockedOn (p:A_):HO×Bool:=if 1<=p.block/\p.block<=p.bf.length then((p.bf.getD (p.block-1).toNat default).to,true) else(default,false)
abbrev IJ:Fct:=⟨[.v (.el .page)],[.el .addr,.el .bool],λ(x:ae)=>x.1.bf.length<=1000000000000/\-9223372036854775808<=x.1.block/\x.1.block<=9223372036854775807,λ(x:ae)=>((blockedOn x.1).1,(blockedOn x.1).2,())⟩
def E16:=E15.a IJ<|Fct.o (KP [1,2,3] [10]) E15.2 func262 (λ⟨(p:A_),_⟩ hp=>hg (.cl Ap (p.block,(1:Int),(p.bf.length:Int),()) λz2=>.br (!z2.1) (.lf IJ (default,false,())) (.ob (0<=wr (p.block-(1:Int))/\wr (p.block-(1:Int))<(p.bf.length:Int))<|.lf IJ ((p.bf.getD (wr (p.block-(1:Int))).toNat default).to,true,()))) (an_ @blockedOn.eq_1<|@inRange.eq_1))
abbrev Gz:Fct:=⟨[.v (.el .page)],[.el .int],λ(x:ae)=>x.1.bf.length<=1048576/\x.1.bi.length<=1048576,λ(x:ae)=>(countIf (λs=>s.done&&decide (s.code≠1)) x.1.bf+countIf (λs=>s.done&&decide (s.code≠1)) x.1.bi,())⟩
abbrev BZ (p:A_):LInv:=⟨[⟨.s,3,true,.el .int⟩,⟨.s,11,true,.el .int⟩,⟨.b,1,false,.el .page⟩],λ(z x:dD)=>(0<=x.2.1/\x.2.1<=p.bf.length/\0<=x.1/\x.1<=x.2.1/\x.1+countIf (λs=>s.done&&decide (s.code≠1)) (p.bf.drop x.2.1.toNat)=countIf (λs=>s.done&&decide (s.code≠1)) p.bf)/\x.2.2.1=z.2.2.1,λ(x:dD)=>p.bf.length-x.2.1.toNat⟩
abbrev B2 (p:A_):LInv:=⟨[⟨.s,3,true,.el .int⟩,⟨.s,28,true,.el .int⟩],λ_ (x:aR)=>0<=x.2.1/\x.2.1<=p.bi.length/\0<=x.1/\x.1<=x.2.1+1048576/\x.1+countIf (λs=>s.done&&decide (s.code≠1)) (p.bi.drop x.2.1.toNat)=countIf (λs=>s.done&&decide (s.code≠1)) p.bf+countIf (λs=>s.done&&decide (s.code≠1)) p.bi,λ(x:aR)=>p.bi.length-x.2.1.toNat⟩
def E17:=E16.a Gz<|Fct.p (KP [1,2,3,5,7,9,10,11,26,27,28] [12,21,29,38]) (λ⟨p,_⟩=>λ|3=>some (BZ p)|9=>some (B2 p)|_=>none) E16.2 func9 (by
 rintro⟨(p:A_),_⟩ hp;refine ho (let bQ:=(p.bf.length:Int);let L_:=Value.int IntKind.i64 (0:Int);let J_:=Value.int IntKind.i64 bQ;lpx (BZ p) ((0:Int),((0:Int),(p,()))) λ(y1:dD) bk1=>let aJ:=Value.int IntKind.i64 y1.2.1;let ay:=p.bf.getD y1.2.1.toNat default;let Y_:=(y1.2.2.1.bi.length:Int);let bD:=Value.int IntKind.i64 Y_;let O_:Out:=.re L_<|.re (p.bf)<|.re J_<|.bk (bk1 (y1.1,(w1 y1.2.1,(y1.2.2.1,()))));.br (decide (y1.2.1<bQ)) (.ob (inB y1.2.1 p.bf.length)<|.br (ay.done) (.br (ay.code != 1) (.re L_<|.re (p.bf)<|.re J_<|.bk (bk1 (w1 y1.1,(w1 y1.2.1,(y1.2.2.1,()))))) O_) O_) (lpx (B2 p) (y1.1,((0:Int),())) λ(y9:aR) bk9=>let aq:=y1.2.2.1.bi.getD y9.2.1.toNat default;let H_:Out:=.re aJ<|.re L_<|.re (p.bf)<|.re J_<|.re (y1.2.2.1.bi)<|.re bD<|.bk (bk9 (y9.1,(w1 y9.2.1,())));.br (decide (y9.2.1<Y_)) (.ob (inB y9.2.1 y1.2.2.1.bi.length)<|.br (aq.done) (.br (aq.code != 1) (.re aJ<|.re L_<|.re (p.bf)<|.re J_<|.re (y1.2.2.1.bi)<|.re bD<|.bk (bk9 (w1 y9.1,(w1 y9.2.1,())))) H_) H_) (.lf Gz (y9.1,())))) ?_;refine Ay ?_ λ(y1:dD) i1=>Z (λh2=>Ad ?_ λ_=>Z (λh4=>Z (λh5=>Al<|Al<|Al<|AR ?_) λh5=>Al<|Al<|Al<|AR ?_) λh4=>Al<|Al<|Al<|AR ?_) (λh2=>Ay ?_ λ(y9:aR) i9=>Z (λh10=>Ad ?_ λ_=>Z (λh12=>Z (λh13=>Al<|Al<|Al<|Al<|Al<|Al<|AR ?_) λh13=>Al<|Al<|Al<|Al<|Al<|Al<|AR ?_) λh12=>Al<|Al<|Al<|Al<|Al<|Al<|AR ?_) λh10=>Y ?_)<;>(try simp only[std,Nat.reduceAdd,countIf,aU] at *)<;>(try simp(disch:=omega) only[FS,C_] at *)<;>(try simp(disch:=omega) only[G_,F_])<;>(first|trivial|omega|grind[FS,C_,B_,K_,I_,maxLen,countIf,aU]))
def classOf (p:A_) (r:ax):Int:=if(blockedOn p).2=true/\(blockedOn p).1=r.to then 0 else if r.kind=3 then 1 else if r.kind=2 then 2 else if r.kind=5 then 3 else if r.kind=4 then 4 else 5
abbrev FH:Fct:=⟨[.v (.el .page),.v (.el .request)],[.el .int],λ(x:A_×ax×Unit)=>x.1.bf.length<=1000000000000/\-9223372036854775808<=x.1.block/\x.1.block<=9223372036854775807,λ(x:A_×ax×Unit)=>(classOf x.1 x.2.1,())⟩
def E18:=E17.a FH<|Fct.o (KP [2,3,4,5,6,20] [18,21,23,25,27]) E17.2 func228 (λ⟨(p:A_),(r:ax),_⟩ hp=>hg (let H_:Out:=.br (r.kind==3) (.lf FH ((1:Int),())) (.br (r.kind==2) (.lf FH ((2:Int),())) (.br (r.kind==5) (.lf FH ((3:Int),())) (.br (r.kind==4) (.lf FH ((4:Int),())) (.lf FH ((5:Int),())))));.cl IJ (p,()) λz2=>.br (z2.2.1) (.br (z2.1.host==r.to.host&&(z2.1.path==r.to.path&&true)) (.lf FH ((0:Int),())) H_) H_) (@classOf.eq_1))
def Pc {l:List cT} {i:Nat} (h:i<l.length):(l.getD i default).bq.length+l.length<=U AS l:=by
 have:=Cy AS h;have h2:=Ac B3 (l.getD i default).bq;simp only[AS] at this;omega
def M3 {l:List ai} {i:Nat} (h:i<l.length):(l.getD i default).bq.length+l.length<=U szT l:=by
 have:=Cy szT h;have h2:=Ac B3 (l.getD i default).bq;simp only[szT] at this;omega
def pickReq (p:A_):List ax->Int->Int->Int->Int
 | [],_,best,_=>best
 | r::l,i,best,bc=>if best<0\/classOf p r<bc then pickReq p l (i+1) i (classOf p r) else pickReq p l (i+1) best bc
abbrev Ie:Fct:=⟨[.v (.el .page),.v (.sl .request)],[.el .int],λ(x:fM)=>x.1.bf.length<=1000000000000/\(-9223372036854775808<=x.1.block/\x.1.block<=9223372036854775807)/\x.2.1.length<=1000000000000,λ(x:fM)=>(pickReq x.1 x.2.1 0 (-1) 0,())⟩
abbrev Bj (p:A_) (l:(List ax)):LInv:=⟨[⟨.s,5,true,.el .int⟩,⟨.s,6,true,.el .int⟩,⟨.b,2,false,.el .page⟩],λ(z x:dD)=>(0<=x.2.1/\x.2.1<=l.length/\-1<=x.1/\x.1<x.2.1/\(x.1 = -1->x.2.1=0)/\pickReq p (l.drop x.2.1.toNat) x.2.1 x.1 (if x.1<0 then 0 else classOf p (l.getD x.1.toNat default))=pickReq p l 0 (-1) 0)/\x.2.2.1=z.2.2.1,λ(x:dD)=>l.length-x.2.1.toNat⟩
def E19:=E18.a Ie<|Fct.p (KP [1,2,4,5,6] [10,29]) (λ⟨p,l,_⟩=>lv [(3,Bj p l)]) E18.2 func179 (λ⟨(p:A_),(l:List ax),_⟩ hp=>hg (.lq (Int×Int×A_×PUnit) (Bj p l).inv (Bj p l).m ((-1:Int),((0:Int),(p,()))) λy1 bk1=>.br (decide (y1.2.1<(l.length:Int))) (.br (decide (y1.1<0)) (.re (l)<|.re (Value.int IntKind.i64 (0:Int))<|.bk (bk1 (y1.2.1,(w1 y1.2.1,(y1.2.2.1,()))))) (.ob (inB y1.2.1 l.length)<|.cl FH (y1.2.2.1,l.getD y1.2.1.toNat default,()) λ(z2:D_)=>.ob (inB y1.1 l.length)<|.cl FH (y1.2.2.1,l.getD y1.1.toNat default,()) λ(z3:D_)=>.br (decide (z2.1<z3.1)) (.re (l)<|.re (Value.int IntKind.i64 (0:Int))<|.bk (bk1 (y1.2.1,(w1 y1.2.1,(y1.2.2.1,()))))) (.re (l)<|.re (Value.int IntKind.i64 (0:Int))<|.bk (bk1 (y1.1,(w1 y1.2.1,(y1.2.2.1,()))))))) (.lf Ie (y1.1,()))) (an_ @pickReq.eq_1<|@pickReq.eq_2))
abbrev PM:Fct:=⟨[.v (.sl .guess)],[.el .int],λ(x:eI)=>x.1.length<=4194304,λ(x:eI)=>(countIf (λg=>!g.used) x.1,())⟩
abbrev Bv (l:(List bv)):LInv:=⟨[⟨.s,3,true,.el .int⟩,⟨.s,4,true,.el .int⟩],λ_ (x:aR)=>0<=x.2.1/\x.2.1<=l.length/\0<=x.1/\x.1<=x.2.1/\x.1+countIf (λg=>!g.used) (l.drop x.2.1.toNat)=countIf (λg=>!g.used) l,λ(x:aR)=>l.length-x.2.1.toNat⟩
def E20:=E19.a PM<|Fct.p (KP [0,2,3,4] [8,16]) (λ⟨l,_⟩=>lv [(3,Bv l)]) E19.2 func182 (λ⟨(l:List bv),_⟩ hp=>hg (.lq (Int×Int×PUnit) (Bv l).inv (Bv l).m ((0:Int),((0:Int),())) λy1 bk1=>.br (decide (y1.2.1<(l.length:Int))) (.ob (inB y1.2.1 l.length)<|.br (!(l.getD y1.2.1.toNat default).used) (.re (l)<|.re (Value.int IntKind.i64 (0:Int))<|.bk (bk1 (w1 y1.1,(w1 y1.2.1,())))) (.re (l)<|.re (Value.int IntKind.i64 (0:Int))<|.bk (bk1 (y1.1,(w1 y1.2.1,()))))) (.lf PM (y1.1,()))) (an_ @countIf.eq_1<|an_ @countIf.eq_2<|@aU))
abbrev HM:Fct:=⟨[.v (.el .loader)],[.el .bool],λ(x:bR)=>True,λ(x:bR)=>(x.1.page.loaded&&decide (x.1.parts.length=0),())⟩
def E21:=E20.a HM<|Fct.o [1,2] E20.2 func52 (by
 rintro⟨(l:N_),_⟩ hp;refine ho (.cl JG (l.page,()) λz2=>.br (z2.1) (.lf HM ((l.parts.length:Int)==0,())) (.lf HM (false,()))) ?_;refine Ai trivial λ_=>(Z (λh1=>Y ?_) λh1=>Y ?_)<;>(try simp only[std,Nat.reduceAdd] at *)<;>(try simp(disch:=omega) only[FS,C_] at *)<;>(try simp(disch:=omega) only[G_,F_])<;>(first|trivial|omega|grind[FS,C_,B_,K_,I_,maxLen]))
abbrev FW:Fct:=⟨[.v (.sl .attr)],[.sl .attr],λ(x:(List cW)×Unit)=>x.1.length<=1099511627776,λ(x:(List cW)×Unit)=>(x.1,())⟩
def E22:=E21.a FW<|Fct.o [0,2] E21.2 func148 (λ⟨(l:List cW),_⟩ hp=>hq (.ap (0+List.length l) 32<|.lf FW ([]++l,())))
abbrev Akx:Fct:=⟨[.v (.el .token)],[.el .token],λ(x:ai×Unit)=>x.1.bq.length<=1099511627776,λ(x:ai×Unit)=>(x.1,())⟩
abbrev Jr:Fct:=⟨[.v (.sl .token)],[.sl .token],λ(x:(List ai)×Unit)=>U szT x.1<=1099511627776,λ(x:(List ai)×Unit)=>(x.1,())⟩
abbrev Cr (l:(List ai)):LInv:=⟨[⟨.s,3,true,.sl .token⟩,⟨.s,4,true,.el .int⟩],λ_ (x:eJ)=>0<=x.2.1/\x.2.1<=l.length/\x.1=l.take x.2.1.toNat,λ(x:eJ)=>l.length-x.2.1.toNat⟩
def E23:=E22.a Jr<|Fct.p (KP [0,2,3,4,5] [10]) (λ⟨l,_⟩=>lv [(3,Cr l)]) E22.2 func107 (by
 rintro⟨(l:List ai),_⟩ hp;refine ho (lpx (Cr l) ([],((0:Int),())) λ(y1:eJ) bk1=>let L_:=inB y1.2.1 l.length;let H_:=l.getD y1.2.1.toNat default;.br (decide (y1.2.1<(l.length:Int))) (.ob L_<|.ob L_<|.cl FW (H_.bq,()) λz2=>let J_:=(⟨H_.kind,H_.name,z2.1,H_.text⟩:ai);.ob (IM (y1.1.length+[J_].length) 64)<|.re (l)<|.bk (bk1 (y1.1++[J_],(w1 y1.2.1,())))) (.lf Jr (y1.1,()))) ?_;refine Ay ?_ λ(y1:eJ) i1=>Z (λh2=>Ad ?_ λ_=>Ad ?_ λ_=>Ai ?_ λ_=>(Ad ?_ λ_=>Al<|AR ?_)) (λh2=>Y ?_)<;>(have hl:=Ac szT l;try have hg:=M3 (l:=l) (i:=y1.2.1.toNat))<;>(try have hg:=M3 (l:=l) (i:=y2.2.1.toNat))<;>(try simp only[std,Nat.reduceAdd,Q_,bO] at *)<;>(try simp(disch:=omega) only[FS,C_] at *)<;>(try simp(disch:=omega) only[G_,F_])<;>(first|trivial|omega|grind[FS,C_,B_,K_,I_,maxLen,Q_,bO]))
theorem cH {b:am} {n:Nat} (h:b.bj.length<=n):(⟨b.bj.take n,b.bn⟩:am)=b:=by rw[cC h]
abbrev DS:Fct:=⟨[.v (.el .ba)],[.el .ba],λ(x:am×Unit)=>szB x.1<=1099511627776,λ(x:am×Unit)=>(x.1,())⟩
abbrev CV (b:am):LInv:=⟨[⟨.b,3,true,.el .ba⟩,⟨.s,4,true,.el .int⟩,⟨.b,1,false,.el .ba⟩,⟨.b,2,true,.el .ba⟩],λ(z x:eK)=>((0<=x.2.1/\x.2.1<=b.bj.length/\x.1=⟨b.bj.take x.2.1.toNat,b.bn⟩)/\x.2.2.1=z.2.2.1)/\x.2.2.2.1=z.2.2.2.1,λ(x:eK)=>b.bj.length-x.2.1.toNat⟩
def E24:=E23.a DS<|Fct.p (KP [1,2,3,4,5] [15]) (λ⟨b,_⟩=>lv [(3,CV b)]) E23.2 func108 (by
 rintro⟨(b:am),_⟩ hp;refine ho (.ap (0+b.bn.length) 8<|lpx (CV b) ((⟨[],[]++b.bn⟩:am),((0:Int),(b,(default,())))) λ(y2:eK) bk2=>let L_:=inB y2.2.1 y2.2.2.1.bj.length;let H_:=y2.2.2.1.bj.getD y2.2.1.toNat default;.br (decide (y2.2.1<(y2.2.2.1.bj.length:Int))) (.ob L_<|.ob L_<|.cl FW (H_.bq,()) λz2=>let J_:=(⟨H_.name,H_.text,H_.parent,z2.1⟩:cT);.ob (IM (y2.1.bj.length+[J_].length) 64)<|.bk (bk2 ((⟨y2.1.bj++[J_],y2.1.bn⟩:am),(w1 y2.2.1,(y2.2.2.1,(y2.2.2.2.1,())))))) (.lf DS (y2.1,()))) ?_;refine FB ?_ λ_=>Ay ?_ λ(y2:eK) i2=>Z (λh3=>Ad ?_ λ_=>Ad ?_ λ_=>Ai ?_ λ_=>Ad ?_ λ_=>AR ?_) (λh3=>Y ?_)<;>(have hl:=Ac AS b.bj;try have hg:=Pc (l:=b.bj) (i:=y1.2.1.toNat))<;>(try have hg:=Pc (l:=b.bj) (i:=y2.2.1.toNat))<;>(try simp only[std,Nat.reduceAdd,Q_,cH,szB] at *)<;>(try simp(disch:=omega) only[FS,C_] at *)<;>(try simp(disch:=omega) only[G_,F_])<;>(first|trivial|omega|grind[FS,C_,B_,K_,I_,maxLen,Q_,cH,szB]))
abbrev DL:Fct:=⟨[.v (.el .bm)],[.el .bm],λ(x:bw)=>AG x.1<=1099511627776,λ(x:bw)=>(x.1,())⟩
def E25:=E24.a DL<|Fct.o [1,2] E24.2 func106 (λ⟨(p:aA),_⟩ hp=>hg (.ap p.bt.length 16<|.ap p.styles.length 16<|.ap p.images.length 16<|.lf DL (p,())) (an_ @AG.eq_1<|an_ (Ac Ag p.bt)<|an_ (Ac Ag p.styles)<|(Ac Ag p.images)))
def E26:=E25.a DL<|Fct.o [1,2] E25.2 func246 (λ⟨(p:aA),_⟩ hp=>hg (.ap (0+p.bt.length) 16<|.ap (0+p.styles.length) 16<|.ap (0+p.images.length) 16<|.lf DL (⟨p.set_,[]++p.bt,[]++p.styles,[]++p.images,p.nonce⟩,())) (an_ @AG.eq_1<|an_ (Ac Ag p.bt)<|an_ (Ac Ag p.styles)<|(Ac Ag p.images)))
abbrev Be:Fct:=⟨[.v (.el .page)],[.el .page],λ(x:ae)=>Au x.1<=1099511627776,λ(x:ae)=>(x.1,())⟩
def E27:=E26.a Be<|Fct.o [1,2,3] E26.2 func62 (λ⟨(p:A_),_⟩ hp=>hg (.cl DL (p.bm,()) λz2=>.cl Jr (p.bp,()) λz3=>.cl DS (p.ba,()) λz4=>.ap (0+p.bf.length) 96<|.ap (0+p.bi.length) 64<|.ap (0+p.bh.length) 32<|.ap (0+p.ran.length) 32<|.ap (0+p.log.length) 16<|.lf Be (⟨p.addr,z2.1,p.tok,z3.1,p.ended,z4.1,[]++p.bf,[]++p.bi,[]++p.bh,p.block,p.inline,p.bo,p.bu,[]++p.ran,[]++p.log,p.loaded⟩,())) (an_ @Au.eq_1<|an_ (Ac AD p.bf)<|an_ (Ac AA p.bi)<|an_ (Ac szAddr p.bh)<|an_ (Ac szAddr p.ran)<|(Ac Ag p.log)))
abbrev Br:Fct:=⟨[.v (.el .addr),.v (.el .addr)],[.el .int],λ(x:HO×HO×Unit)=>True,λ(x:HO×HO×Unit)=>(cmp x.1 x.2.1,())⟩
def E28:=E27.a Br<|Fct.o (KP [2,3,4] [5,9]) E27.2 func163 (by
 rintro⟨(a:HO),(b:HO),_⟩ hp;refine ho (.br (a.host==b.host&&(a.path==b.path&&true)) (.lf Br ((0:Int),())) (.br (Op.bytesLess a.host.toList b.host.toList) (.lf Br ((-1:Int),())) (.br (a.host.toList==b.host.toList) (.br (Op.bytesLess a.path.toList b.path.toList) (.lf Br ((-1:Int),())) (.lf Br ((1:Int),()))) (.lf Br ((1:Int),()))))) ?_;repeat' (guard_target =~ Out.holds _ _;first|refine Y ?_|refine Z (λ_=>?_) λ_=>?_)
 all_goals (try simp only[DP,Acy,az,cw] at *)<;>(have h1:=Lu a.host b.host;have h2:=Lu a.path b.path;have h3:=X2 a b;have h4:=FA (a:=a) (b:=b);have h5:=Jn (a:=a.host) (b:=b.host);have h6:=Jn (a:=a.path) (b:=b.path);try simp only[std,Nat.reduceAdd,cmp] at *)<;>(try simp(disch:=omega) only[FS,C_] at *)<;>(try simp(disch:=omega) only[G_,F_])<;>(first|trivial|omega|grind[FS,C_,B_,K_,I_,maxLen,cmp]))
def laysCmp_r:Go.Shelf.Ren:=⟨λ|0=>0|1=>1|2=>2|101=>244|106=>129|109=>235|110=>194|125=>128|128=>172|129=>173|138=>279|143=>280|146=>243|156=>273|165=>283|166=>284|169=>285|171=>247|195=>287|197=>288|206=>281|208=>271|213=>174|217=>300|218=>289|219=>290|221=>270|224=>302|225=>301|240=>293|241=>294|243=>274|246=>286|260=>299|265=>224|266=>311|267=>303|268=>278|276=>305|277=>306|283=>295|284=>296|285=>297|286=>298|314=>312|317=>307|318=>308|319=>309|320=>310|329=>220|330=>221|337=>313|338=>314|347=>315|348=>316|349=>317|350=>318|351=>319|352=>320|353=>321|354=>322|355=>323|356=>324|357=>325|358=>326|359=>327|360=>328|361=>329|362=>330|366=>331|367=>339|_=>0,λ|0=>0|1=>1|2=>2|3=>3|4=>4|5=>5|6=>6|7=>7|8=>8|9=>9|10=>10|11=>11|12=>12|13=>13|14=>14|15=>15|16=>16|17=>17|18=>18|19=>19|20=>20|21=>21|22=>192|23=>284|24=>135|27=>185|28=>33|31=>36|32=>279|33=>242|36=>285|37=>22|43=>156|46=>184|47=>183|51=>225|52=>224|53=>227|54=>226|55=>175|61=>282|67=>305|69=>288|70=>307|71=>308|72=>309|73=>310|74=>311|75=>312|76=>313|77=>314|80=>315|81=>346|83=>243|84=>316|103=>244|104=>158|105=>317|106=>318|111=>332|113=>304|114=>138|119=>333|127=>320|131=>222|137=>334|138=>335|139=>336|146=>337|150=>306|151=>338|164=>326|165=>327|166=>328|171=>321|172=>322|173=>323|174=>324|182=>217|183=>218|211=>329|212=>330|213=>331|218=>263|219=>264|220=>265|222=>267|228=>294|229=>295|232=>339|233=>340|238=>341|239=>342|240=>343|241=>344|242=>345|243=>347|244=>348|245=>349|246=>350|247=>351|248=>352|249=>353|_=>0,λ|1=>0|3=>2|4=>3|17=>1|18=>4|19=>5|_=>0⟩
def Ad2:Go.Proofs.Lays.n106 Tryz.prog laysCmp_r:=by repeat' first|kernel_rfl|constructor|intro _
def E29:=E28.a fCmpStr<|Aj8 rfl (Any.strings_Compare Ad2)
def E30:=E29.a Br<|Fct.o (KP [2,3,4,5] [12]) E29.2 func74 (by
 rintro⟨(a:HO),(b:HO),_⟩ hp;refine ho (.cl fCmpStr (a.host,b.host,()) λ(z2:D_)=>.br (z2.1 != 0) (.lf Br (z2.1,())) (.cl fCmpStr (a.path,b.path,()) λ(z3:D_)=>.lf Br (z3.1,()))) ?_;refine Ai trivial λ_=>(Z (λh1=>Y ?_) λh1=>Ai trivial λ_=>Y ?_)<;>(try simp only[fCmpStr,std,Nat.reduceAdd,cmp] at *)<;>(try simp(disch:=omega) only[FS,C_] at *)<;>(try simp(disch:=omega) only[G_,F_])<;>(first|trivial|omega|grind[FS,C_,B_,K_,I_,maxLen,cmp,fCmpStr]))
def Akg (x y:HO) (W:World):Calls Tryz.prog 74 #[.agg (Ou x).toArray,.agg (Ou y).toArray] W λe w'=>e=.returned (.int .i64 (cmp x y))/\∃ q os,w'=Go.Sort.grow (W.drewN q) os:=by
 have hc:=λa b W=>Any.strings_Compare Ad2 a b W
 change ∀ a b W,Calls Tryz.prog 129 _ _ _ at hc
 change Calls _ _ #[.agg #[.string x.host,.string x.path],.agg #[.string y.host,.string y.path]] _ _
 go_enter func74,Tryz.ntmps74
 go_wp2_with (go_at_call 129;refine(hc _ _ _).mono ?_;rintro e w' ⟨rfl,rfl⟩)
 all_goals
  go_ret
  refine⟨?_,0,_,by rw[Go.Sort.alloc_eq_grow,Go.Sort.alloc_eq_grow,Go.Sort.grow_grow];rfl⟩;simp_all [cmp,Uz]
abbrev ZO:GS:=⟨[.k (.sl .addr),.l (.c 74 [])],[],λ(x:(List HO)×(Unit)×Unit)=>x.1.length<4611686018427387904,λ(x:(List HO)×(Unit)×Unit)=>((()),(YJ x.1,()))⟩
def laysSortA_r:Go.Shelf.Ren:=⟨λ|0=>0|1=>1|2=>2|6=>73|14=>127|15=>128|20=>164|21=>165|22=>166|23=>167|24=>168|25=>169|26=>170|27=>171|28=>172|29=>173|46=>219|47=>220|48=>221|49=>222|50=>223|57=>259|60=>315|61=>316|62=>317|63=>318|64=>319|65=>320|66=>321|67=>322|68=>323|69=>324|70=>325|71=>326|72=>327|73=>328|74=>329|75=>331|_=>0,λ|0=>0|1=>1|2=>2|3=>3|4=>4|5=>5|6=>6|7=>7|8=>8|9=>9|10=>10|11=>11|12=>12|13=>13|14=>14|15=>15|16=>16|17=>17|18=>18|19=>19|20=>20|21=>21|22=>47|23=>129|24=>32|25=>130|27=>33|29=>156|37=>182|38=>183|39=>184|40=>112|42=>332|44=>216|45=>217|46=>218|47=>219|48=>220|49=>221|50=>222|51=>223|52=>224|53=>225|54=>226|55=>227|66=>263|67=>264|68=>265|69=>266|70=>267|71=>268|76=>294|77=>295|78=>296|81=>315|82=>341|83=>342|84=>343|85=>344|86=>345|87=>346|88=>347|89=>348|90=>349|91=>320|92=>350|93=>351|94=>352|95=>353|96=>326|_=>0,λ_=>0⟩
def Aeq:Go.Proofs.SlLaysF0.n6 Tryz.prog laysSortA_r:=⟨k_,⟨"slices.SortFunc[[]loop.example/g00586/impl.Addr,loop.example/g00586/impl.Addr]",by decide,k_⟩,⟨"slices.pdqsortCmpFunc[loop.example/g00586/impl.Addr]",by decide,k_⟩,k_,⟨"slices.insertionSortCmpFunc[loop.example/g00586/impl.Addr]",by decide,k_⟩,⟨"slices.heapSortCmpFunc[loop.example/g00586/impl.Addr]",by decide,k_⟩,⟨"slices.breakPatternsCmpFunc[loop.example/g00586/impl.Addr]",by decide,k_⟩,⟨"slices.choosePivotCmpFunc[loop.example/g00586/impl.Addr]",by decide,k_⟩,⟨"slices.reverseRangeCmpFunc[loop.example/g00586/impl.Addr]",by decide,k_⟩,⟨"slices.partialInsertionSortCmpFunc[loop.example/g00586/impl.Addr]",by decide,k_⟩,⟨"slices.partitionEqualCmpFunc[loop.example/g00586/impl.Addr]",by decide,k_⟩,⟨"slices.partitionCmpFunc[loop.example/g00586/impl.Addr]",by decide,k_⟩,k_,k_,⟨"slices.siftDownCmpFunc[loop.example/g00586/impl.Addr]",by decide,k_⟩,k_,k_,⟨"slices.medianAdjacentCmpFunc[loop.example/g00586/impl.Addr]",by decide,k_⟩,⟨"slices.medianCmpFunc[loop.example/g00586/impl.Addr]",by decide,k_⟩,⟨"slices.order2CmpFunc[loop.example/g00586/impl.Addr]",by decide,k_⟩,k_,(λ_=>k_),(λ_=>k_),(λ_=>k_),k_,(λ_=>k_),(λ_=>k_),(λ_=>k_),k_,(λ_=>k_),(λ_=>k_),(λ_=>k_),k_,(λ_=>k_),(λ_=>k_),(λ_=>k_),k_,(λ_=>k_),(λ_=>k_),(λ_=>k_),k_,(λ_=>k_),(λ_=>k_),(λ_=>k_),k_,(λ_=>k_),(λ_=>k_),(λ_=>k_),k_,(λ_=>k_),(λ_=>k_),(λ_=>k_),k_,(λ_=>k_),(λ_=>k_),(λ_=>k_),k_,(λ_=>k_),(λ_=>k_),(λ_=>k_),k_,(λ_=>k_),(λ_=>k_),(λ_=>k_),k_,(λ_=>k_),(λ_=>k_),(λ_=>k_),k_,(λ_=>k_),(λ_=>k_),(λ_=>k_),k_,(λ_=>k_),(λ_=>k_),(λ_=>k_),k_,(λ_=>k_),(λ_=>k_),(λ_=>k_),k_,(λ_=>k_),(λ_=>k_),(λ_=>k_),k_,(λ_=>k_),(λ_=>k_),(λ_=>k_)⟩
def E31:=E30.G ZO<|AeI (cf:=cmp) Aeq rfl (λ_=>k_) (λ_=>k_) AnM Aqb (enters_of func74 k_ rfl) Akg
abbrev F9:GS:=⟨[.g (.sl .addr)],[.sl .addr],λ(x:dl)=>x.1.length<=1000000000000,λ(x:dl)=>((Bw x.1,()),(()))⟩
abbrev AX (s:(List HO)):LInv:=⟨[⟨.s,3,true,.el .int⟩,⟨.t,0,true,.sl .addr⟩],λ_ (x:eL)=>1<=x.1/\x.1<=s.length/\x.2.1=s/\Bw (s.take x.1.toNat)=s.take x.1.toNat,λ(x:eL)=>s.length-x.1.toNat⟩
abbrev A0 (s:(List HO)):LInv:=⟨[⟨.s,3,true,.el .int⟩,⟨.s,5,true,.el .int⟩,⟨.t,0,true,.sl .addr⟩],λ(z x:eN)=>CompInv s x.2.2.1 z.1 x.1 x.2.1,λ(x:eN)=>s.length-x.2.1.toNat⟩
def E32:=E31.G F9<|GS.of (S:=F9) (L:=λ⟨s,_⟩=>λ|4=>some (AX s)|9=>some (A0 s)|_=>none) (kp:=(KP [0,2,3,4,5] [8,13,25,32,44])) E31.2 func75 k_ k_ (by
 rintro⟨(s:List HO),_⟩ hp;refine ho (.br (decide ((s.length:Int)<2)) (GS.out F9 ((s,()),(()))) (lpx (AX s) ((1:Int),(s,())) λ(y2:eL) bk2=>let dw:=y2.1.toNat=y2.1.toNat;let aO:=y2.2.1.getD y2.1.toNat default;let bD:=(y2.2.1.length:Int);let Y_:=y2.2.1.length-y2.1.toNat=y2.2.1.length-y2.1.toNat;let O_:=y2.1-(1:Int);let bQ:=y2.2.1.getD (wr O_).toNat default;let J_:=(↑(y2.2.1.length-y2.1.toNat):Int);.br (decide (y2.1<bD)) (.ob (inB y2.1 y2.2.1.length)<|.ob (y2.1.toNat<y2.2.1.length)<|.ob (0<=wr O_/\wr O_<bD)<|.ob ((wr O_).toNat<y2.2.1.length)<|.br (aO.host==bQ.host&&(aO.path==bQ.path&&true)) (.ob (0<=y2.1/\y2.1<=bD)<|lpx (A0 s) (y2.1,((1:Int),(y2.2.1,()))) λ(y10:eN) bk10=>let bP:=y10.2.2.1.length-y10.1.toNat;let aK:=0<=y10.2.1/\y10.2.1<J_;let aJ:=y2.1.toNat+y10.2.1.toNat<y10.2.2.1.length;let ay:=y2.1.toNat+y10.2.1.toNat;let bX:=y10.2.2.1.getD ay default;let L_:=y10.2.1-(1:Int);let aq:=y10.2.2.1.getD (y2.1.toNat+(wr L_).toNat) default;let H_:=Mz y10.2.2.1 y10.1.toNat (List.replicate bP default);.br (decide (y10.2.1<J_)) (.ob aK<|.ob aJ<|.ob (0<=wr L_/\wr L_<J_)<|.ob (y2.1.toNat+(wr L_).toNat<y10.2.2.1.length)<|.br (!(bX.host==aq.host&&(bX.path==aq.path&&true))) (.ob aK<|.ob aJ<|.ob (inB y10.1 y10.2.2.1.length)<|.ob (y10.1.toNat<y10.2.2.1.length)<|.lt (List HO) (y10.2.2.1.modify y10.1.toNat λz=>y10.2.2.1.getD ay default) λz2=>.ob dw<|.ob Y_<|.ob (bk10 (w1 y10.1,(w1 y10.2.1,(z2,()))))<|.ok) (.ob dw<|.ob Y_<|.ob (bk10 (y10.1,(w1 y10.2.1,(y10.2.2.1,()))))<|.ok)) (.ob (0<=y10.1/\y10.1<=(y10.2.2.1.length:Int))<|.ob (y10.1.toNat+bP<=y10.2.2.1.length)<|.ob (0<=y10.1/\y10.1<=(H_.length:Int))<|.ob (0+(y10.1.toNat-0)<=H_.length)<|GS.out F9 ((cut H_ 0 (y10.1.toNat-0),()),(())))) (.ob (bk2 (w1 y2.1,(y2.2.1,())))<|.ok)) (GS.out F9 ((y2.2.1,()),(()))))) ?_;refine Z (λh1=>GS.leafY ?_) λh1=>Ay ?_ λ(y2:eL) i2=>Z (λh3=>Ad ?_ λ_=>Ad ?_ λ_=>Ad ?_ λ_=>Ad ?_ λ_=>Z (λh8=>Ad ?_ λ_=>Ay ?_ λ(y10:eN) i10=>Z (λh11=>Ad ?_ λ_=>Ad ?_ λ_=>Ad ?_ λ_=>Ad ?_ λ_=>Z (λh16=>Ad ?_ λ_=>Ad ?_ λ_=>Ad ?_ λ_=>Ad ?_ λ_=>K6 (Ad rfl λ_=>Ad rfl λ_=>Ad ?_ λ_=>trivial)) λh16=>Ad rfl λ_=>Ad rfl λ_=>Ad ?_ λ_=>trivial) λh11=>Ad ?_ λ_=>Ad ?_ λ_=>Ad ?_ λ_=>Ad ?_ λ_=>GS.leafY ?_) λh8=>Ad ?_ λ_=>trivial) λh3=>GS.leafY ?_;all_goals
  try simp only[DP] at *
  try have cI:=i10
 all_goals (try obtain⟨c1,c2,c3,c4,c5,c6,c7,c8⟩:=cI;clear c7 c8)<;>(try obtain⟨d1,d2,d3,d4⟩:=i2;simp only[d3] at *)<;>(try simp only[std,Nat.reduceAdd] at *)<;>(try simp(disch:=omega) only[FS] at *)<;>(try simp only[Xz (e:=y10.1.toNat) (xs:=y10.2.2.1) (ys:=List.replicate (y10.2.2.1.length-y10.1.toNat) default) (by simp;omega)] at *)<;>(first|trivial|omega|skip)
 .exact(Px _ O).symm
 .exact⟨O,O,Px _ (by simp;omega)⟩
 .exact Ya d1 O d4 h8
 .exact⟨AfQ i10 O h16,O⟩
 .exact⟨AdE i10 O h16,O⟩
 .exact AfF i10 O _
 .exact⟨⟨O,O,Acq d1 O d4 h8⟩,O⟩
 .rw[cC O] at d4;exact d4.symm)
abbrev KR:Fct:=⟨[.v (.sl .addr)],[.sl .addr],λ(x:dl)=>x.1.length<=1000000000000,λ(x:dl)=>(so x.1,())⟩
def E33:=E32.a KR<|Fct.o [0,2,3] E32.2 func32 (by
 rintro⟨(l:List HO),_⟩ hp;refine ho (.ap (0+List.length l) 32<|.ob (ZO.pre ([]++l,(),()))<|.lt _ (ZO.fn ([]++l,(),())) λz2=>.ob (F9.pre (z2.2.1,()))<|.lt _ (F9.fn (z2.2.1,())) λz3=>.lf KR (z3.1.1,())) ?_;refine FB ?_ λ_=>Ad ?_ λ_=>K6 (Ad ?_ λ_=>K6 (Y ?_))<;>(have hl1:(YJ l).length=l.length:=(List.mergeSort_perm _ _).length_eq;try simp only[WJ] at *;try simp only[std,Nat.reduceAdd,so] at *)<;>(try simp(disch:=omega) only[FS,C_] at *)<;>(try simp(disch:=omega) only[G_,F_])<;>(first|trivial|omega|grind[FS,C_,B_,K_,I_,maxLen,so]))
def YI:∀ {l:List HO},(Bw l).length=l.length->Bw l=l:=by
 intro l
 induction l with
 | nil=>intro _;rfl
 | cons a l ih=>
  cases l with
  | nil=>intro _;rfl
  | cons b l=>
   rw[Gt];split
   .intro h;have:=X3 (b::l);simp only[aw] at h this;omega
   .intro h;simp only[aw] at h ih;rw[ih O]
def UT:∀ {l:List HO},l.Nodup->Bw l=l:=by
 intro l
 induction l with
 | nil=>intro _;rfl
 | cons a l ih=>
  cases l with
  | nil=>intro _;rfl
  | cons b l=>
   intro h;have h':=List.nodup_cons.1 h;rw[Gt,F_ (by rintro rfl;exact h'.1 dx),ih h'.2]
def R8 {l:List HO} (h:Ji l):l.Nodup:=h.imp λ{a b} h=>by rintro rfl;rw[FA.2 rfl] at h;omega
def Lq (l:List HO):(so l).length=l.length↔l.Nodup:=by
 have hp:(YJ l).Perm l:=List.mergeSort_perm _ _;constructor
 .intro h;rw[<-hp.nodup_iff,<-YI (l:=YJ l) (by rw[hp.length_eq];exact h)];exact R8 (L4 l)
 .intro h;unfold so;rw[UT (hp.nodup_iff.2 h),hp.length_eq]
abbrev Gv:Fct:=⟨[.v (.el .page)],[.el .bool],λ(x:ae)=>x.1.ran.length<=900000000000,λ(x:ae)=>(decide ((so x.1.ran).length=x.1.ran.length),())⟩
def E34:=E33.a Gv<|Fct.o [1,2] E33.2 func10 (by
 rintro⟨(p:A_),_⟩ hp;refine ho (.cl KR (p.ran,()) λz2=>.lf Gv ((z2.1.length:Int)==(p.ran.length:Int),())) ?_;refine Ai ?_ λ_=>(Y ?_)<;>(try simp only[std,Nat.reduceAdd] at *)<;>(try simp(disch:=omega) only[FS,C_] at *)<;>(try simp(disch:=omega) only[G_,F_])<;>(first|trivial|omega|grind[FS,C_,B_,K_,I_,maxLen]))
def AnP (l:List HO) (i:Nat):cut l 0 (i-0)=l.take i:=by simp[cut]
def AjC {l:List HO} {i:Nat} (hi:i<l.length) (h:((cut l 0 (i-0)).any λc=>decide (c=l.getD i default))=true):decide ((so l).length=l.length)=false:=by
 rw[cw,Lq];intro hn;rw[AnP] at h;obtain⟨c,hc,he⟩:=bI.1 h;simp only[az] at he;have e:l=l.take i++l.getD i default::l.drop (i+1):=by rw[<-B_ hi,dc]
 rw[e,List.nodup_append] at hn;exact hn.2.2 c hc _ dx he
def AkY {l:List HO} {i:Nat} (hi:i<l.length) (hn:(l.take i).Nodup) (h:((cut l 0 (i-0)).any λc=>decide (c=l.getD i default))=false):(l.take (i+1)).Nodup:=by
 rw[AnP,List.any_eq_false] at h;rw[Q_ hi,List.nodup_append];refine⟨hn,by simp,λa ha b hb e=>?_⟩;simp only[List.mem_singleton] at hb;exact h a ha (by simp[e,hb])
abbrev DE (p:A_):LInv:=⟨[⟨.s,3,true,.el .int⟩,⟨.b,1,false,.el .page⟩],λ(z x:dE)=>(0<=x.1/\x.1<=p.ran.length/\(p.ran.take x.1.toNat).Nodup)/\x.2.1=z.2.1,λ(x:dE)=>p.ran.length-x.1.toNat⟩
def E35:=E34.a Gv<|Fct.p (KP [1,2,3] [8,20]) (λ⟨p,_⟩=>lv [(2,DE p)]) E34.2 func16 (by
 rintro⟨(p:A_),_⟩ hp;refine ho (lpx (DE p) ((0:Int),(p,())) λ(y1:dE) bk1=>.br (decide (y1.1<(y1.2.1.ran.length:Int))) (.ob (0<=y1.1/\y1.1<=(y1.2.1.ran.length:Int))<|.ob (inB y1.1 y1.2.1.ran.length)<|.cl Gw (cut y1.2.1.ran 0 (y1.1.toNat-0),y1.2.1.ran.getD y1.1.toNat default,()) λz2=>.br (z2.1) (.lf Gv (false,())) (.ob (bk1 (w1 y1.1,(y1.2.1,())))<|.ok)) (.lf Gv (true,()))) ?_;refine Ay ?_ λ(y1:dE) i1=>Z (λh2=>Ad ?_ λ_=>Ad ?_ λ_=>Ai ?_ λ_=>Z (λh6=>Y ?_) λh6=>Ad ?_ λ_=>trivial) (λh2=>Y ?_)<;>(try obtain⟨⟨c1,c2,c3⟩,c4⟩:=i1;simp only[c4] at *)<;>(try simp only[std,Nat.reduceAdd] at *)<;>(try simp(disch:=omega) only[FS,C_] at *)<;>(first|trivial|omega|skip)
 .exact⟨O,O,by simp⟩
 .rw[N6 O];omega
 .exact(AjC O h6).symm
 .exact⟨⟨O,O,AkY O c3 h6⟩,O⟩
 .rw[cC O] at c3;exact(cP ((Lq _).2 c3)).symm)
abbrev LO:Fct:=⟨[.v (.el .page),.v (.el .addr)],[.el .int],λ(x:bE)=>x.1.bi.length<=1000000000000,λ(x:bE)=>(fidx (λm=>decide (m.to=x.2.1)) x.1.bi 0,())⟩
abbrev Cx (p:A_) (a:HO):LInv:=⟨[⟨.s,5,true,.el .int⟩,⟨.b,2,false,.el .page⟩,⟨.b,3,true,.el .addr⟩],λ(z x:eO)=>((0<=x.1/\x.1<=p.bi.length/\fidx (λm=>decide (m.to=a)) (p.bi.drop x.1.toNat) x.1=fidx (λm=>decide (m.to=a)) p.bi 0)/\x.2.1=z.2.1)/\x.2.2.1=z.2.2.1,λ(x:eO)=>p.bi.length-x.1.toNat⟩
def E36:=E35.a LO<|Fct.p (KP [2,3,4,5] [10,20]) (λ⟨p,a,_⟩=>lv [(2,Cx p a)]) E35.2 func121 (λ⟨(p:A_),(a:HO),_⟩ hp=>hg (.lq (Int×A_×HO×PUnit) (Cx p a).inv (Cx p a).m ((0:Int),(p,(a,()))) λy1 bk1=>.br (decide (y1.1<(y1.2.1.bi.length:Int))) (.ob (inB y1.1 y1.2.1.bi.length)<|.br ((y1.2.1.bi.getD y1.1.toNat default).to.host==y1.2.2.1.host&&((y1.2.1.bi.getD y1.1.toNat default).to.path==y1.2.2.1.path&&true)) (.lf LO (y1.1,())) (.bk (bk1 (w1 y1.1,(y1.2.1,(y1.2.2.1,())))))) (.lf LO ((-1:Int),()))) (an_ @fidx.eq_1<|@fidx.eq_2))
def isAsked (p:A_) (a:HO):Bool:=p.bf.any (λs=>decide (s.to=a))||p.bi.any (λm=>decide (m.to=a))
abbrev Ma:Fct:=⟨[.v (.el .page),.v (.el .addr)],[.el .bool],λ(x:bE)=>x.1.bi.length<=1000000000000/\x.1.bf.length<=1000000000000,λ(x:bE)=>(isAsked x.1 x.2.1,())⟩
abbrev B5 (p:A_) (a:HO):LInv:=⟨[⟨.s,5,true,.el .int⟩,⟨.b,2,false,.el .page⟩,⟨.b,3,true,.el .addr⟩],λ(z x:eO)=>((0<=x.1/\x.1<=p.bf.length/\(p.bf.drop x.1.toNat).any (λs=>decide (s.to=a))=p.bf.any λs=>decide (s.to=a))/\x.2.1=z.2.1)/\x.2.2.1=z.2.2.1,λ(x:eO)=>p.bf.length-x.1.toNat⟩
def E37:=E36.a Ma<|Fct.p (KP [2,3,4,5] [10,20]) (λ⟨p,a,_⟩=>lv [(2,B5 p a)]) E36.2 func232 (λ⟨(p:A_),(a:HO),_⟩ hp=>hg (.lq (Int×A_×HO×PUnit) (B5 p a).inv (B5 p a).m ((0:Int),(p,(a,()))) λy1 bk1=>.br (decide (y1.1<(y1.2.1.bf.length:Int))) (.ob (inB y1.1 y1.2.1.bf.length)<|.br ((y1.2.1.bf.getD y1.1.toNat default).to.host==y1.2.2.1.host&&((y1.2.1.bf.getD y1.1.toNat default).to.path==y1.2.2.1.path&&true)) (.lf Ma (true,())) (.bk (bk1 (w1 y1.1,(y1.2.1,(y1.2.2.1,())))))) (.cl LO (y1.2.1,y1.2.2.1,()) λ(z2:D_)=>.lf Ma (decide (z2.1>=0),()))) (an_ @isAsked.eq_1<|(GT (λm:Z_=>decide (m.to=a)) p.bi 0 O)))
def Ih {l:List V_} {i:Nat} (h:i<l.length):(l.getD i default).files.length+l.length<=U Af l:=by
 have:=Cy Af h;have h2:=Ac Ha (l.getD i default).files;simp only[Af] at this;omega
abbrev AlB:Fct:=⟨[aI,aI],[rI],λ_=>True,λ(x:aR)=>(min x.1 x.2.1,())⟩
def E38:=E37.a AlB<|Fct.o (KP [0,1,4] [7]) E37.2 func98 (by
 rintro⟨(a:Int),(b:Int),_⟩ hp;refine ho (.br (decide (b<a)) (.lf AlB (b,())) (.lf AlB (a,()))) ?_;refine Z (λh1=>Y ?_) λh1=>Y ?_;all_goals try simp only[std,Nat.reduceAdd] at *
 all_goals first|trivial|omega|(simp_all;done)|(simp_all;omega)|grind)
def Ur {J:Type} (f:J->Nat) (l m:List J):U f (l++m)=U f l+U f m:=by simp[U];omega
def Qp {J:Type} (f:J->Nat) (l:List J) (n:Nat):U f (l.drop n)<=U f l:=by
 have h:=Ur f (l.take n) (l.drop n);simp_all
def AdH {l:List ao} {i:Int} (h0:0<=i) (hj:i<l.length) {k m n j':Nat} (hjj:j'=i.toNat+1) (hm:m=l.length-j') (hk:k=i.toNat+m) (hn:n=i.toNat):cut (Mz l n (cut l j' m)) 0 k=l.take i.toNat++l.drop (i.toNat+1):=by
 subst hk;subst hn;rw[show cut (Mz l i.toNat (cut l j' m)) 0 (i.toNat+m)=(Mz l i.toNat (cut l j' m)).take (i.toNat+m) from rfl,Ah9 O O hm,hjj]
def closeC (l:List ao) (i:Int):List ao:=if 0<=i/\i<l.length then l.take i.toNat++l.drop (i.toNat+1) else l
def Qr (l:List ao) (i:Int):(closeC l i).length<=l.length:=by unfold closeC;split<;>simp<;>omega
abbrev IN:Fct:=⟨[.v (.sl .conn),.v (.el .int)],[.sl .conn],λ(x:fD)=>x.1.length<=1048576,λ(x:fD)=>(closeC x.1 x.2.1,())⟩
def E39:=E38.a IN<|Fct.o (KP [0,1,4,5] [14]) E38.2 func233 (by
 rintro⟨(l:List ao),(i:Int),_⟩ hp;refine ho (let L_:=(↑([]++l).length:Int);let H_:=([]++l).length-(w1 i).toNat;let O_:=Int.toNat i-0+H_;let J_:=Mz ([]++l) (Int.toNat i-0) (cut ([]++l) (w1 i).toNat H_);.ap (0+List.length l) 112<|.cl Ap (i,(0:Int),wr ((↑(List.length l):Int)-(1:Int)),()) λz2=>.br (!z2.1) (.lf IN ([]++l,())) (.ob (0<=i/\i<=L_)<|.ob (0<=w1 i/\w1 i<=L_)<|.ob (0=0/\0<([]++l).length/\(w1 i).toNat+H_<=([]++l).length/\Int.toNat i-0+H_<=([]++l).length)<|.ob (0+O_<=J_.length)<|.lf IN (cut J_ 0 O_,()))) ?_;refine FB ?_ λ_=>Ai trivial λ_=>(Z (λh2=>Y ?_) λh2=>Ad ?_ λ_=>Ad ?_ λ_=>Ad ?_ λ_=>Ad ?_ λ_=>Y ?_)<;>(try simp only[std,Nat.reduceAdd,closeC,inRange] at *)<;>(try simp(disch:=omega) only[FS,C_] at *)<;>(try simp(disch:=omega) only[G_,F_])<;>(try simp only[VT,YE,List.length_replicate,T_,fB,az,cw] at *)<;>(first|omega|(rw[F_ O];done)|exact AdH O O O O O O))
def hasI (l:List Int) (i:Int):Bool:=l.any λc=>decide (c=i)
def isCut (cs:List Int) (i:Int):Bool:=hasI (cs.take 7) i
def cutG (s:ByteArray) (cs:List Int):Nat->Int->Int->List ByteArray
 | 0,_,a=>[s.extract a.toNat s.size]
 | f+1,i,a=>if isCut cs i then s.extract a.toNat i.toNat::cutG s cs f (i+1) i else cutG s cs f (i+1) a
def cutText (s:ByteArray) (cs:List Int):List ByteArray:=cutG s cs (s.size-1) 1 0
abbrev QN:Fct:=⟨[.v (.el .str),.v (.sl .int)],[.sl .str],λ(x:fN)=>x.1.size<=1048576/\x.2.1.length<=1048576,λ(x:fN)=>(cutText x.1 x.2.1,())⟩
def AeR {l:List Int} {k:Nat} {i:Int} (h:k<l.length):hasI (l.take (k+1)) i=(hasI (l.take k) i||decide (l.getD k default=i)):=by
 rw[Q_ h];simp[hasI]
def Zd {s:ByteArray} {cs:List Int} {f:Nat} {i a:Int} (h:0<f):cutG s cs f i a=if isCut cs i then s.extract a.toNat i.toNat::cutG s cs (f-1) (i+1) i else cutG s cs (f-1) (i+1) a:=by
 obtain⟨n,rfl⟩:∃ n,f=n+1:=⟨f-1,O⟩;rfl
def AdC (cs:List Int) (i:Int):hasI (cs.take (min cs.length 7)) i=isCut cs i:=by
 unfold isCut;congr 1;rcases Nat.le_total cs.length 7 with h|h
 .rw[Nat.min_eq_left h,List.take_length,cC h]
 .rw[Nat.min_eq_right h]
def AdN (l:List Int) (i:Int):hasI (l.take 0) i=false:=by simp[hasI]
def Agw {cs:List Int} {i k:Int} (h1:min (cs.length:Int) 7<=k) (h2:k<=cs.length) (h3:k<=7):hasI (cs.take k.toNat) i=isCut cs i:=by
 rw[<-AdC];congr 2;omega
def Ado {s:ByteArray} {cs:List Int} {f:Nat} {i a:Int} (h:f=0):cutG s cs f i a=[s.extract a.toNat s.size]:=by subst h;rfl
abbrev Du (s:ByteArray) (cs:(List Int)):LInv:=⟨[⟨.s,5,true,.sl .str⟩,⟨.s,6,true,.el .int⟩,⟨.s,8,true,.el .int⟩],λ_ (x:dF)=>1<=x.2.2.1/\(x.2.2.1<=s.size\/x.2.2.1=1)/\0<=x.2.1/\x.2.1<x.2.2.1/\x.2.1<=s.size/\x.1.length<=x.2.2.1/\x.1++cutG s cs (s.size-x.2.2.1.toNat) x.2.2.1 x.2.1=cutText s cs,λ(x:dF)=>s.size-x.2.2.1.toNat⟩
abbrev DF (s:ByteArray) (cs:(List Int)):LInv:=⟨[⟨.s,9,true,.el .bool⟩,⟨.s,10,true,.el .int⟩,⟨.s,5,true,.sl .str⟩,⟨.s,6,true,.el .int⟩,⟨.s,8,true,.el .int⟩],λ(z x:fO)=>x.2.2.1=z.2.2.1/\x.2.2.2.1=z.2.2.2.1/\x.2.2.2.2.1=z.2.2.2.2.1/\0<=x.2.1/\x.2.1<=cs.length/\x.2.1<=7/\x.1=hasI (cs.take x.2.1.toNat) x.2.2.2.2.1,λ(x:fO)=>7-x.2.1.toNat⟩
def E40:=E39.a QN<|Fct.p (KP [0,1,4,5,6,7,8,9,10] [18,23,35]) (λ⟨s,cs,_⟩=>λ|5=>some (Du s cs)|9=>some (DF s cs)|_=>none) E39.2 func49 (λ⟨(s:ByteArray),(cs:List Int),_⟩ hp=>hg (let Y_:=(s.size:Int);let O_:=DF s cs;let L_:=Du s cs;let J_:=Value.string s;.cl AlB ((cs.length:Int),(7:Int),()) λ(z2:D_)=>let H_:=Value.int IntKind.i64 z2.1;.lq (List ByteArray×Int×Int×PUnit) L_.inv L_.m ([],((0:Int),((1:Int),()))) λy1 bk1=>.br (decide (y1.2.2.1<Y_)) (.lq (Bool×Int×List ByteArray×Int×Int×PUnit) O_.inv O_.m (false,((0:Int),(y1.1,(y1.2.1,(y1.2.2.1,()))))) λy3 bk3=>.br (decide (y3.2.1<z2.1)) (.br (y3.1) (.re J_<|.re (cs)<|.re H_<|.bk (bk3 (true,(w1 y3.2.1,(y3.2.2.1,(y3.2.2.2.1,(y3.2.2.2.2.1,()))))))) (.ob (inB y3.2.1 cs.length)<|.re J_<|.re (cs)<|.re H_<|.bk (bk3 (cs.getD y3.2.1.toNat default==y3.2.2.2.2.1,(w1 y3.2.1,(y3.2.2.1,(y3.2.2.2.1,(y3.2.2.2.2.1,())))))))) (.br (y3.1) (.ob (0<=y3.2.2.2.1/\y3.2.2.2.1<=y3.2.2.2.2.1/\y3.2.2.2.2.1<=Y_)<|.ap (y3.2.2.1.length+[s.extract y3.2.2.2.1.toNat y3.2.2.2.2.1.toNat].length) 16<|.re J_<|.re (cs)<|.re H_<|.bk (bk1 (y3.2.2.1++[s.extract y3.2.2.2.1.toNat y3.2.2.2.2.1.toNat],(y3.2.2.2.2.1,(w1 y3.2.2.2.2.1,()))))) (.re J_<|.re (cs)<|.re H_<|.bk (bk1 (y3.2.2.1,(y3.2.2.2.1,(w1 y3.2.2.2.2.1,()))))))) (.ob (0<=y1.2.1/\y1.2.1<=Y_)<|.ap (y1.1.length+[s.extract y1.2.1.toNat s.size].length) 16<|.lf QN (y1.1++[s.extract y1.2.1.toNat s.size],()))) (an_ @cutText.eq_1<|an_ @Zd<|an_ @Ado<|an_ @AeR<|an_ @Agw<|@AdN))
def Ad6 (i:Int):∀ l:List Int,l.countP (λc=>decide (i+1<=c))+(if hasI l i=true then 1 else 0)<=l.countP (λc=>decide (i<=c))
 | []=>by simp[hasI]
 | x::l=>by
  have ih:=Ad6 i l;have e:hasI (x::l) i=(decide (x=i)||hasI l i):=rfl;rw[List.countP_cons,List.countP_cons,e];have hb:(if hasI l i=true then 1 else 0)<=1:=by split<;>omega
  rcases Int.lt_trichotomy x i with h|h|h
  .simp only[show ¬ i+1<=x from O,show ¬ i<=x from O,show ¬ x=i from O,decide_false,Bool.false_or,cD,aS];omega
  .subst h;simp only[show ¬ x+1<=x from O,Int.le_refl,decide_false,decide_true,Bool.true_or,cD,aS,aD];omega
  .simp only[show i+1<=x from O,show i<=x from O,show ¬ x=i from O,decide_false,decide_true,Bool.false_or,aD];omega
def U0 (s:ByteArray) (cs:List Int):∀ (f:Nat) (i a:Int),(cutG s cs f i a).length<=1+(cs.take 7).countP (λc=>decide (i<=c))
 | 0,i,a=>by rw[cutG];simp
 | f+1,i,a=>by
  have h:=Ad6 i (cs.take 7);rw[cutG];split
  .rename_i hc;have hc:hasI (cs.take 7) i=true:=hc;rw[G_ hc] at h;have:=U0 s cs f (i+1) i;rw[aw];omega
  .have:=U0 s cs f (i+1) a;split at h<;>omega
def Nr (s:ByteArray) (cs:List Int):(cutText s cs).length<=8:=by
 have h2:=U0 s cs (s.size-1) 1 0;have h3:(cs.take 7).countP (λc=>decide ((1:Int)<=c))<=(cs.take 7).length:=List.countP_le_length;have h4:(cs.take 7).length<=7:=by rw[cZ];omega
 show(cutG s cs (s.size-1) 1 0).length<=8;omega
def hosts (n:P_):List ByteArray:=Ahp (λs=>s.to.host) [] n.log
def nameByte (b:UInt8):Bool:=97<=b.toNat&&b.toNat<=122
def bts (s:ByteArray):List UInt8:=s.data.toList
def Ajo (s:ByteArray):(bts s).length=s.size:=rfl
def AlZ {s:ByteArray} {i:Nat} (h:i<s.size):(bts s).drop i=s.data.getD i 0::(bts s).drop (i+1):=by
 have h2:i<s.data.size:=h;have e:s.data.getD i 0=s.data[i]:=by unfold Array.getD;rw[dif_pos h2];rfl
 rw[List.drop_eq_getElem_cons (by rw[Ajo];exact h),e];rfl
def Aib {s:ByteArray} {i:Nat} (h:s.size<=i):(bts s).drop i=[]:=cx h
def allB (p:UInt8->Bool) (l:List UInt8):Bool:=l.all p
def Qw {p:UInt8->Bool} {s:ByteArray} {i:Nat} (h:i<s.size):allB p ((bts s).drop i)=(p (s.data.getD i 0)&&allB p ((bts s).drop (i+1))):=by rw[AlZ h];rfl
def Mj {p:UInt8->Bool} {s:ByteArray} {i:Nat} (h:s.size<=i):allB p ((bts s).drop i)=true:=by rw[Aib h];rfl
def isName (s:ByteArray):Bool:=allB nameByte (bts s)&&decide (1<=s.size/\s.size<=8)
abbrev By:Fct:=⟨[.v (.el .str)],[.el .bool],λ(x:E_)=>x.1.size<=1000000000000000000,λ(x:E_)=>(isName x.1,())⟩
abbrev CA (s:ByteArray):LInv:=⟨[⟨.s,3,true,.el .int⟩],λ_ (x:D_)=>0<=x.1/\x.1<=s.size/\allB nameByte ((bts s).drop x.1.toNat)=allB nameByte (bts s),λ(x:D_)=>s.size-x.1.toNat⟩
def E41:=E40.a By<|Fct.p (KP [0,2,3] [7,19]) (λ⟨s,_⟩=>lv [(2,CA s)]) E40.2 func103 (λ⟨(s:ByteArray),_⟩ hp=>hg (.lq (Int×PUnit) (CA s).inv (CA s).m ((0:Int),()) λy1 bk1=>.br (decide (y1.1<(s.size:Int))) (.ob (0<=y1.1/\y1.1<(s.size:Int))<|.br (decide ((↑(s.data.getD y1.1.toNat 0).toNat:Int)<97)) (.lf By (false,())) (.ob (0<=y1.1/\y1.1<(s.size:Int))<|.br (decide ((↑(s.data.getD y1.1.toNat 0).toNat:Int)>122)) (.lf By (false,())) (.re (Value.string s)<|.bk (bk1 (w1 y1.1,()))))) (.cl Ap ((s.size:Int),(1:Int),(8:Int),()) λz2=>.lf By (z2.1,()))) (an_ @isName.eq_1<|an_ @nameByte.eq_1<|an_ @inRange.eq_1<|an_ @Qw<|@Mj))
abbrev Cz (s:ByteArray):LInv:=⟨[⟨.s,3,true,.el .int⟩],λ_ (x:D_)=>0<=x.1/\x.1<=s.size/\allB nameByte ((bts s).drop x.1.toNat)=allB nameByte (bts s),λ(x:D_)=>s.size-x.1.toNat⟩
def E42:=E41.a By<|Fct.p (KP [0,2,3] [7,19]) (λ⟨s,_⟩=>lv [(2,Cz s)]) E41.2 func192 (λ⟨(s:ByteArray),_⟩ hp=>hg (.lq (Int×PUnit) (Cz s).inv (Cz s).m ((0:Int),()) λy1 bk1=>.br (decide (y1.1<(s.size:Int))) (.ob (0<=y1.1/\y1.1<(s.size:Int))<|.br (decide ((↑(s.data.getD y1.1.toNat 0).toNat:Int)<97)) (.lf By (false,())) (.ob (0<=y1.1/\y1.1<(s.size:Int))<|.br (decide ((↑(s.data.getD y1.1.toNat 0).toNat:Int)>122)) (.lf By (false,())) (.re (Value.string s)<|.bk (bk1 (w1 y1.1,()))))) (.cl Ap ((s.size:Int),(1:Int),(8:Int),()) λz2=>.lf By (z2.1,()))) (an_ @isName.eq_1<|an_ @nameByte.eq_1<|an_ @inRange.eq_1<|an_ @Qw<|@Mj))
def valByte (b:UInt8):Bool:=(97<=b.toNat&&b.toNat<=122)||(48<=b.toNat&&b.toNat<=57)||b.toNat==47
def isValue (s:ByteArray):Bool:=allB valByte (bts s)&&decide (1<=s.size/\s.size<=20)
abbrev FI:Fct:=⟨[.v (.el .str)],[.el .bool],λ(x:E_)=>x.1.size<=1000000000000000000,λ(x:E_)=>(isValue x.1,())⟩
abbrev DG (s:ByteArray):LInv:=⟨[⟨.s,3,true,.el .int⟩],λ_ (x:D_)=>0<=x.1/\x.1<=s.size/\allB valByte ((bts s).drop x.1.toNat)=allB valByte (bts s),λ(x:D_)=>s.size-x.1.toNat⟩
def E43:=E42.a FI<|Fct.p (KP [0,2,3] [7,37]) (λ⟨s,_⟩=>lv [(2,DG s)]) E42.2 func145 (λ⟨(s:ByteArray),_⟩ hp=>hg (let ay:=DG s;let aq:=(s.size:Int);.lq (Int×PUnit) ay.inv ay.m ((0:Int),()) λy1 bk1=>let O_:Out:=.re (Value.string s)<|.bk (bk1 (w1 y1.1,()));let L_:=0<=y1.1/\y1.1<aq;let J_:=(↑(s.data.getD y1.1.toNat 0).toNat:Int);let Y_:Out:=.ob L_<|.br (J_ != 47) (.lf FI (false,())) O_;let H_:Out:=.ob L_<|.br (decide (J_<48)) Y_ (.ob L_<|.br (decide (J_>57)) Y_ O_);.br (decide (y1.1<aq)) (.ob L_<|.br (decide (J_<97)) H_ (.ob L_<|.br (decide (J_>122)) H_ O_)) (.cl Ap (aq,(1:Int),(20:Int),()) λz2=>.lf FI (z2.1,()))) (an_ @isValue.eq_1<|an_ @valByte.eq_1<|an_ @inRange.eq_1<|an_ @Qw<|@Mj))
abbrev Dr (s:ByteArray):LInv:=⟨[⟨.s,3,true,.el .int⟩],λ_ (x:D_)=>0<=x.1/\x.1<=s.size/\allB valByte ((bts s).drop x.1.toNat)=allB valByte (bts s),λ(x:D_)=>s.size-x.1.toNat⟩
def E44:=E43.a FI<|Fct.p (KP [0,2,3] [7,38]) (λ⟨s,_⟩=>lv [(2,Dr s)]) E43.2 func193 (λ⟨(s:ByteArray),_⟩ hp=>hg (let aJ:=Dr s;let ay:=(s.size:Int);let Y_:Out:=.lf FI (false,());.lq (Int×PUnit) aJ.inv aJ.m ((0:Int),()) λy1 bk1=>let O_:Out:=.re (Value.string s)<|.bk (bk1 (w1 y1.1,()));let bD:Out:=.br (!true) Y_ O_;let L_:=0<=y1.1/\y1.1<ay;let J_:=(↑(s.data.getD y1.1.toNat 0).toNat:Int);let aq:Out:=.ob L_<|.br (!J_==47) Y_ O_;let H_:Out:=.ob L_<|.br (decide (J_>=48)) (.ob L_<|.br (decide (J_<=57)) bD aq) aq;.br (decide (y1.1<ay)) (.ob L_<|.br (decide (J_>=97)) (.ob L_<|.br (decide (J_<=122)) bD H_) H_) (.cl Ap (ay,(1:Int),(20:Int),()) λz2=>.lf FI (z2.1,()))) (an_ @isValue.eq_1<|an_ @valByte.eq_1<|an_ @inRange.eq_1<|an_ @Qw<|@Mj))
abbrev DN:Fct:=⟨[.v (.el .addr)],[.el .bool],λ(x:aj)=>x.1.host.size<=1000000000000000000/\x.1.path.size<=1000000000000000000,λ(x:aj)=>(isName x.1.host&&isName x.1.path,())⟩
def E45:=E44.a DN<|Fct.o [1,2] E44.2 func54 (λ⟨(a:HO),_⟩ hp=>hq (.cl By (a.host,()) λz2=>.br (z2.1) (.cl By (a.path,()) λz3=>.lf DN (z3.1,())) (.lf DN (false,()))))
def E46:=E45.a DN<|Fct.o [1,2] E45.2 func191 (λ⟨(a:HO),_⟩ hp=>hq (.cl By (a.host,()) λz2=>.br (z2.1) (.cl By (a.path,()) λz3=>.lf DN (z3.1,())) (.lf DN (false,()))))
def RN {l:List ByteArray} {i:Nat} (h:i<l.length):(l.getD i default).size+l.length<=U Ag l:=by
 have:=Cy Ag h;omega
abbrev Ke:Fct:=⟨[.v (.sl .str)],[.el .bool],λ(x:bS)=>U Ag x.1<=1099511627776,λ(x:bS)=>(x.1.all isName&&decide (x.1.length<=4),())⟩
abbrev Cv (l:(List ByteArray)):LInv:=⟨[⟨.s,3,true,.el .int⟩],λ_ (x:D_)=>0<=x.1/\x.1<=l.length/\(l.drop x.1.toNat).all isName=l.all isName,λ(x:D_)=>l.length-x.1.toNat⟩
def E47:=E46.a Ke<|Fct.p (KP [0,2,3] [7,15]) (λ⟨l,_⟩=>lv [(2,Cv l)]) E46.2 func144 (λ⟨(l:List ByteArray),_⟩ hp=>hg (.lq (Int×PUnit) (Cv l).inv (Cv l).m ((0:Int),()) λy1 bk1=>.br (decide (y1.1<(l.length:Int))) (.ob (inB y1.1 l.length)<|.cl By (l.getD y1.1.toNat default,()) λz2=>.br (!z2.1) (.lf Ke (false,())) (.re (l)<|.bk (bk1 (w1 y1.1,())))) (.lf Ke (decide ((l.length:Int)<=4),()))) (an_ (Ac Ag l)<|(λi h=>by have:=RN h;have hp2:U Ag l<=1099511627776:=hp;omega:∀ i,i<l.length->(l.getD i default).size<=1000000000000000000)))
abbrev Dg:Fct:=⟨[.v (.el .str)],[.el .bool],λ(x:E_)=>x.1.size<=1000000000000000000,λ(x:E_)=>(!isName x.1,())⟩
def E48:=E47.a Dg<|Fct.o [0,2] E47.2 func292 (λ⟨(s:ByteArray),_⟩ hp=>hq (.cl By (s,()) λz2=>.lf Dg (!z2.1,())))
abbrev AY:Fct:=⟨[aL .str,.c 292 []],[rI],λx=>x.1.length<=1000000000000000000/\∀ i,i<x.1.length->Dg.pre (x.1.getD i default,x.2.1),λx=>(fidx (λc=>(Dg.fn (c,x.2.1)).1) x.1 0,())⟩
abbrev Az (l:(List ByteArray)) (u:(Unit)):LInv:=⟨[⟨.s,8,true,.el .int⟩],λ_ (x:D_)=>0<=x.1/\x.1<=l.length/\fidx (λc=>(Dg.fn (c,u)).1) l 0=fidx (λc=>(Dg.fn (c,u)).1) (l.drop x.1.toNat) x.1,λ(x:D_)=>l.length-x.1.toNat⟩
def E49:=E48.a AY<|Fct.p (KP [0,1,4,5,7,8] [9,16]) (λ⟨l,u,_⟩=>lv [(2,Az l u)]) E48.2 func304 (by
 rintro⟨(l:List ByteArray),(u:PUnit),_⟩ hp;refine ho (lpx (Az l u) ((0:Int),()) λ(y1:D_) bk1=>.br (decide (y1.1<(l.length:Int))) (.ob (inB y1.1 l.length)<|.cl Dg (l.getD y1.1.toNat default,()) λz2=>.br (z2.1) (.lf AY (y1.1,())) (.re (l)<|.re (Value.int IntKind.i64 (l.length:Int))<|.bk (bk1 (w1 y1.1,())))) (.lf AY ((-1:Int),()))) ?_;refine Ay ?_ λ(y1:D_) i1=>Z (λh2=>Ad ?_ λ_=>Ai ?_ λ_=>Z (λh5=>Y ?_) λh5=>Al<|Al<|AR ?_) (λh2=>Y ?_)<;>(try simp only[std,Nat.reduceAdd] at *)<;>(try have hp2:=hp.2)<;>(try have hp1:=hp.1)<;>(first|trivial|omega|exact hp2 _ O|grind[FS,C_,B_,K_,I_,maxLen,fidx]))
abbrev Ba:Fct:=⟨[aL .str,.c 292 []],[rB],λx=>x.1.length<=1000000000000000000/\∀ i,i<x.1.length->Dg.pre (x.1.getD i default,x.2.1),λx=>(x.1.any λc=>(Dg.fn (c,x.2.1)).1,())⟩
def E50:=E49.a Ba<|Fct.o [0,1,4] E49.2 func291 (by
 rintro⟨(l:List ByteArray),(u:PUnit),_⟩ hp;refine ho (.cl AY (l,(),()) λ(z2:D_)=>.lf Ba (decide (z2.1>=0),())) ?_;refine Ai ?_ λ_=>(Y ?_)<;>(try simp only[std,Nat.reduceAdd] at *)<;>(first|trivial|omega|exact hp|(rw[Bool.eq_iff_iff];exact decide_eq_true_iff.trans (GT _ _ _ O))))
def E51:=E50.a Ke<|Fct.o [0,2] E50.2 func282 (λ⟨(l:List ByteArray),_⟩ hp=>hg (.br (decide ((↑(List.length l):Int)<=4)) (.cl Ba (l,(),()) λz2=>.lf Ke (!z2.1,())) (.lf Ke (false,()))) (an_ (Ac Ag l)<|an_ (λi h=>by have:=RN h;have hp2:U Ag l<=1099511627776:=hp;omega:∀ i,i<l.length->(l.getD i default).size<=1000000000000000000)<|(by simp[List.any_eq_not_all_not]:(l.any λc=>!isName c) = !(l.all isName))))
def isPolicy (p:aA):Bool:=if p.set_ then p.bt.all isName&&decide (p.bt.length<=4)&&(p.styles.all isName&&decide (p.styles.length<=4))&&(p.images.all isName&&decide (p.images.length<=4))&&(decide (p.nonce=⟨#[]⟩)||isValue p.nonce) else decide (p.bt.length=0/\p.styles.length=0/\p.images.length=0/\p.nonce=⟨#[]⟩)
abbrev BN:Fct:=⟨[.v (.el .bm)],[.el .bool],λ(x:bw)=>AG x.1<=1099511627776,λ(x:bw)=>(isPolicy x.1,())⟩
theorem q3 (p:aA) (hp:BN.pre (p,())):Out.holds (BN.ctr (p,())).post (.br (!p.set_) (.br ((p.bt.length:Int)==0) (.br ((p.styles.length:Int)==0) (.br ((p.images.length:Int)==0) (.lf BN (p.nonce.toList==(⟨#[]⟩:ByteArray).toList,())) (.lf BN (false,()))) (.lf BN (false,()))) (.lf BN (false,()))) (.cl Ke (p.bt,()) λz2=>.br (z2.1) (.cl Ke (p.styles,()) λz3=>.br (z3.1) (.cl Ke (p.images,()) λz4=>.br (z4.1) (.br (p.nonce.toList==(⟨#[]⟩:ByteArray).toList) (.lf BN (true,())) (.cl FI (p.nonce,()) λz5=>.lf BN (z5.1,()))) (.lf BN (false,()))) (.lf BN (false,()))) (.lf BN (false,())))):=hz ((an_ @isPolicy.eq_1<|@AG.eq_1))
def E52:=E51.a BN<|Fct.o (KP [1,2] [5]) E51.2 func89 (λ⟨(p:aA),_⟩ hp=>ho _ (q3 p hp))
def E53:=E52.a BN<|Fct.o (KP [1,2] [5]) E52.2 func272 (λ⟨(p:aA),_⟩ hp=>ho _ (q3 p hp))
abbrev DK:Fct:=⟨[.v (.el .bm),.v (.el .int),.v (.el .str)],[.el .bool],λ(x:fP)=>AG x.1<=1099511627776,λ(x:fP)=>(!x.1.set_||(if x.2.1=2\/x.2.1=5 then x.1.bt.any (λc=>decide (c=x.2.2.1)) else if x.2.1=3 then x.1.styles.any (λc=>decide (c=x.2.2.1)) else if x.2.1=4 then x.1.images.any (λc=>decide (c=x.2.2.1)) else false),())⟩
def E54:=E53.a DK<|Fct.o (KP [1,2,3,6] [7,11,22,29]) E53.2 func204 (λ⟨(p:aA),(k:Int),(h:ByteArray),_⟩ hp=>hg (.br (!p.set_) (.lf DK (true,())) (.br (k==2) (.cl VZ (p.bt,h,()) λz2=>.lf DK (z2.1,())) (.br (k==5) (.cl VZ (p.bt,h,()) λz3=>.lf DK (z3.1,())) (.br (k==3) (.cl VZ (p.styles,h,()) λz4=>.lf DK (z4.1,())) (.br (k==4) (.cl VZ (p.images,h,()) λz5=>.lf DK (z5.1,())) (.lf DK (false,()))))))) (an_ @AG.eq_1<|an_ (Ac Ag p.bt)<|an_ (Ac Ag p.styles)<|(Ac Ag p.images)))
def E55:=E54.a DK<|Fct.o (KP [1,2,3,6,10,11] [9,18,24]) E54.2 func136 (λ⟨(p:aA),(k:Int),(h:ByteArray),_⟩ hp=>hg (let J_:Out:=.cl EA (p.bt,h,()) λz2=>.lf DK (z2.1,());let H_:Out:=.br (k==3) (.cl EA (p.styles,h,()) λz3=>.lf DK (z3.1,())) (.br (k==4) (.cl EA (p.images,h,()) λz4=>.lf DK (z4.1,())) (.lf DK (false,())));.br (!p.set_) (.lf DK (true,())) (.br (k==2) (.br (k==2) J_ H_) (.br (k==5) J_ H_))) (an_ @AG.eq_1<|an_ (Ac Ag p.bt)<|an_ (Ac Ag p.styles)<|(Ac Ag p.images)))
def isRequest (r:ax):Bool:=inRange r.kind 1 5&&(isName r.to.host&&isName r.to.path)&&isName r.from_&&(decide (r.digest=⟨#[]⟩)||isValue r.digest)
abbrev Ch:Fct:=⟨[.v (.el .request)],[.el .bool],λ(x:eP)=>A6 x.1<=1099511627776,λ(x:eP)=>(isRequest x.1,())⟩
theorem q4 (r:ax) (hp:Ch.pre (r,())):Out.holds (Ch.ctr (r,())).post (.cl Ap (r.kind,(1:Int),(5:Int),()) λz2=>.br (z2.1) (.cl DN (r.to,()) λz3=>.br (z3.1) (.cl By (r.from_,()) λz4=>.br (z4.1) (.br (r.digest.toList==(⟨#[]⟩:ByteArray).toList) (.lf Ch (true,())) (.cl FI (r.digest,()) λz5=>.lf Ch (z5.1,()))) (.lf Ch (false,()))) (.lf Ch (false,()))) (.lf Ch (false,()))):=hz ((an_ @isRequest.eq_1<|an_ @A6.eq_1<|@szAddr.eq_1))
def E56:=E55.a Ch<|Fct.o [1,2] E55.2 func203 (λ⟨(r:ax),_⟩ hp=>ho _ (q4 r hp))
def E57:=E56.a Ch<|Fct.o [1,2] E56.2 func135 (λ⟨(r:ax),_⟩ hp=>ho _ (q4 r hp))
def allows (p:aA) (k:Int) (h:ByteArray):Bool:=(DK.fn (p,k,h,())).1
def checkRequest (p:aA) (r:ax):Int:=if isRequest r&&(decide (r.kind=1)||allows p r.kind r.to.host) then 1 else 2
abbrev AJ:Fct:=⟨[.v (.el .bm),.v (.el .request)],[.el .int],λ(x:fQ)=>AG x.1<=1099511627776/\A6 x.2.1<=1099511627776,λ(x:fQ)=>(checkRequest x.1 x.2.1,())⟩
theorem q5 (p:aA) (r:ax) (hp:AJ.pre (p,r,())):Out.holds (AJ.ctr (p,r,())).post (.cl Ch (r,()) λz2=>.br (!z2.1) (.lf AJ ((2:Int),())) (.br (r.kind != 1) (.cl DK (p,r.kind,r.to.host,()) λz3=>.br (!z3.1) (.lf AJ ((2:Int),())) (.lf AJ ((1:Int),()))) (.lf AJ ((1:Int),())))):=hz ((an_ @checkRequest.eq_1<|@allows.eq_1))
def E58:=E57.a AJ<|Fct.o (KP [2,3,4] [22]) E57.2 func141 (λ⟨(p:aA),(r:ax),_⟩ hp=>ho _ (q5 p r hp))
def E59:=E58.a AJ<|Fct.o (KP [2,3,4] [22]) E58.2 func78 (λ⟨(p:aA),(r:ax),_⟩ hp=>ho _ (q5 p r hp))
abbrev Dt:Fct:=⟨[.v (.el .bd),.v (.el .int)],[.el .bool],λ(x:M_×Int×Unit)=>True,λ(x:M_×Int×Unit)=>(decide (x.1.kind=x.2.1)||decide (x.2.1=5/\x.1.kind=2),())⟩
def E60:=E59.a Dt<|Fct.o [1,2,4] E59.2 func161 (λ⟨(x:M_),(k:Int),_⟩ hp=>hq (.br (x.kind==k) (.lf Dt (true,())) (.br (k==5) (.lf Dt (x.kind==2,())) (.lf Dt (false,())))))
def E61:=E60.a Dt<|Fct.o [1,2,4] E60.2 func139 (λ⟨(x:M_),(k:Int),_⟩ hp=>hq (.br (x.kind==k) (.lf Dt (true,())) (.br (k==5) (.lf Dt (x.kind==2,())) (.lf Dt (false,())))))
def notF:M_:=⟨404,1,⟨#[]⟩,0,false,⟨#[]⟩⟩
abbrev C2:Fct:=⟨[],[rE .bd],λ_=>True,λ_=>(notF,())⟩
def E62:=E61.a C2<|Fct.o [0] E61.2 func55 (by
 rintro⟨_⟩ hp;refine ho (.lf C2 (⟨(404:Int),(1:Int),(⟨#[]⟩:ByteArray),(0:Int),false,(⟨#[]⟩:ByteArray)⟩,())) ?_;refine Y ?_;all_goals try simp only[std,Nat.reduceAdd] at *
 all_goals first|trivial|omega|(simp_all;done)|(simp_all;omega)|grind)
def E63:=E62.a C2<|Fct.o [0] E62.2 func196 (by
 rintro⟨_⟩ hp;refine ho (.lf C2 (⟨(404:Int),(1:Int),(⟨#[]⟩:ByteArray),(0:Int),false,(⟨#[]⟩:ByteArray)⟩,())) ?_;refine Y ?_;all_goals try simp only[std,Nat.reduceAdd] at *
 all_goals first|trivial|omega|(simp_all;done)|(simp_all;omega)|grind)
abbrev BJ:Fct:=⟨[.v (.sl .server)],[.sl .server],λ(x:bG)=>U Af x.1<=68719476736,λ(x:bG)=>(x.1,())⟩
abbrev BF (l:(List V_)):LInv:=⟨[⟨.s,3,true,.sl .server⟩,⟨.s,4,true,.el .int⟩],λ_ (x:eQ)=>0<=x.2.1/\x.2.1<=l.length/\x.1=l.take x.2.1.toNat,λ(x:eQ)=>l.length-x.2.1.toNat⟩
def E64:=E63.a BJ<|Fct.p (KP [0,2,3,4] [9]) (λ⟨l,_⟩=>lv [(3,BF l)]) E63.2 func92 (λ⟨(l:List V_),_⟩ hp=>hg (.lq (List V_×Int×PUnit) (BF l).inv (BF l).m ([],((0:Int),())) λy1 bk1=>.br (decide (y1.2.1<(l.length:Int))) (.ob (inB y1.2.1 l.length)<|.ob (inB y1.2.1 l.length)<|.ap (l.getD y1.2.1.toNat default).files.length 80<|.ob (IM (y1.1.length+[l.getD y1.2.1.toNat default].length) 40)<|.re (l)<|.bk (bk1 (y1.1++[l.getD y1.2.1.toNat default],(w1 y1.2.1,())))) (.lf BJ (y1.1,()))) (an_ @Q_<|an_ @bO<|an_ (Ac Af l)<|(λi h=>by have:=Ih h;have hp2:U Af l<=68719476736:=hp;omega:∀ i,i<l.length->(l.getD i default).files.length<=68719476736)))
abbrev Bf (l:(List V_)):LInv:=⟨[⟨.s,3,true,.sl .server⟩,⟨.s,9,true,.el .int⟩],λ_ (x:eQ)=>0<=x.2.1/\x.2.1<=l.length/\x.1=l.take x.2.1.toNat,λ(x:eQ)=>l.length-x.2.1.toNat⟩
def E65:=E64.a BJ<|Fct.p (KP [0,2,3,5,7,8,9] [10]) (λ⟨l,_⟩=>lv [(3,Bf l)]) E64.2 func236 (λ⟨(l:List V_),_⟩ hp=>hg (.lq (List V_×Int×PUnit) (Bf l).inv (Bf l).m ([],((0:Int),())) λy1 bk1=>.br (decide (y1.2.1<(l.length:Int))) (.ob (inB y1.2.1 l.length)<|.ap (l.getD y1.2.1.toNat default).files.length 80<|.ob (IM (y1.1.length+[l.getD y1.2.1.toNat default].length) 40)<|.re (l)<|.re (l)<|.re (Value.int IntKind.i64 (l.length:Int))<|.bk (bk1 (y1.1++[l.getD y1.2.1.toNat default],(w1 y1.2.1,())))) (.lf BJ (y1.1,()))) (an_ @Q_<|an_ @bO<|an_ (Ac Af l)<|(λi h=>by have:=Ih h;have hp2:U Af l<=68719476736:=hp;omega:∀ i,i<l.length->(l.getD i default).files.length<=68719476736)))
abbrev CT:Fct:=⟨[.v (.el .cache)],[.el .cache],λ(x:cA)=>szCache x.1<=68719476736,λ(x:cA)=>(x.1,())⟩
def E66:=E65.a CT<|Fct.o [1,2] E65.2 func102 (λ⟨(c:aZ),_⟩ hp=>hg (.ap (0+c.bh.length) 120<|.lf CT (⟨[]++c.bh⟩,())) (an_ @szCache.eq_1<|(Ac AK c.bh)))
def E67:=E66.a CT<|Fct.o [1,2] E66.2 func237 (λ⟨(c:aZ),_⟩ hp=>hg (.ap (0+c.bh.length) 120<|.lf CT (⟨[]++c.bh⟩,())) (an_ @szCache.eq_1<|(Ac AK c.bh)))
abbrev FN:Fct:=⟨[.v (.el .net)],[.el .net],λ(x:bH)=>szNet x.1<=68719476736,λ(x:bH)=>(x.1,())⟩
def E68:=E67.a FN<|Fct.o [1,2] E67.2 func53 (λ⟨(n:P_),_⟩ hp=>hg (.cl BJ (n.servers,()) λz2=>.cl CT (n.cache,()) λz3=>.ap n.log.length 56<|.lf FN (⟨z2.1,z3.1,n.log,n.now⟩,())) (an_ @szNet.eq_1<|(Ac Fw n.log)))
def E69:=E68.a FN<|Fct.o [1,2] E68.2 func195 (λ⟨(n:P_),_⟩ hp=>hg (.cl BJ (n.servers,()) λz2=>.cl CT (n.cache,()) λz3=>.ap n.log.length 56<|.lf FN (⟨z2.1,z3.1,n.log,n.now⟩,())) (an_ @szNet.eq_1<|(Ac Fw n.log)))
abbrev Fo:Fct:=⟨[.v (.sl .server),.v (.el .str)],[.el .int],λ(x:fS)=>x.1.length<=1000000000000,λ(x:fS)=>(fidx (λs=>decide (s.host=x.2.1)) x.1 0,())⟩
abbrev BI (l:(List V_)) (h:ByteArray):LInv:=⟨[⟨.s,5,true,.el .int⟩],λ_ (x:D_)=>0<=x.1/\x.1<=l.length/\fidx (λs=>decide (s.host=h)) (l.drop x.1.toNat) x.1=fidx (λs=>decide (s.host=h)) l 0,λ(x:D_)=>l.length-x.1.toNat⟩
def E70:=E69.a Fo<|Fct.p (KP [0,1,4,5] [9,18]) (λ⟨l,h,_⟩=>lv [(2,BI l h)]) E69.2 func93 (λ⟨(l:List V_),(h:ByteArray),_⟩ hp=>hg (.lq (Int×PUnit) (BI l h).inv (BI l h).m ((0:Int),()) λy1 bk1=>.br (decide (y1.1<(l.length:Int))) (.ob (inB y1.1 l.length)<|.br ((l.getD y1.1.toNat default).host.toList==h.toList) (.lf Fo (y1.1,())) (.re (l)<|.re (Value.string h)<|.bk (bk1 (w1 y1.1,())))) (.lf Fo ((-1:Int),()))) (an_ @fidx.eq_1<|@fidx.eq_2))
abbrev ES:Fct:=⟨[.v (.el .server),.p (.el .str)],[.el .bool],λ(x:eR)=>True,λ(x:eR)=>(decide (x.1.host=x.2.1),())⟩
def E71:=E70.a ES<|Fct.o [1,2,3] E70.2 func265 (λ⟨(s:V_),(h:ByteArray),_⟩ hp=>hq (.lf ES (s.host.toList==ByteArray.toList h,())))
abbrev AN:Fct:=⟨[aL .server,.c 265 [.el .str]],[rI],λx=>x.1.length<=1000000000000000000/\∀ c,ES.pre (c,x.2.1),λx=>(fidx (λc=>(ES.fn (c,x.2.1)).1) x.1 0,())⟩
abbrev Am (l:(List V_)) (u:(ByteArray×Unit)):LInv:=⟨[⟨.s,8,true,.el .int⟩],λ_ (x:D_)=>0<=x.1/\x.1<=l.length/\fidx (λc=>(ES.fn (c,u)).1) l 0=fidx (λc=>(ES.fn (c,u)).1) (l.drop x.1.toNat) x.1,λ(x:D_)=>l.length-x.1.toNat⟩
def E72:=E71.a AN<|Fct.p (KP [0,1,4,5,7,8] [9,16]) (λ⟨l,u,_⟩=>lv [(2,Am l u)]) E71.2 func264 (by
 rintro⟨(l:List V_),(u:E_),_⟩ hp;refine ho (lpx (Am l u) ((0:Int),()) λ(y1:D_) bk1=>.br (decide (y1.1<(l.length:Int))) (.ob (inB y1.1 l.length)<|.cl ES (l.getD y1.1.toNat default,u.1,()) λz2=>.br (z2.1) (.lf AN (y1.1,())) (.re (l)<|.re (enc Ty.str u.1)<|.re (Value.int IntKind.i64 (l.length:Int))<|.bk (bk1 (w1 y1.1,())))) (.lf AN ((-1:Int),()))) ?_;refine Ay ?_ λ(y1:D_) i1=>Z (λh2=>Ad ?_ λ_=>Ai trivial λ_=>Z (λh4=>Y ?_) λh4=>Al<|Al<|Al<|AR ?_) (λh2=>Y ?_)<;>(try simp only[std,Nat.reduceAdd] at *)<;>(try have hp2:=hp.2)<;>(try have hp1:=hp.1)<;>(first|trivial|omega|grind[FS,C_,B_,K_,I_,maxLen,fidx]))
def E73:=E72.a Fo<|Fct.o [0,3,4] E72.2 func240 (λ⟨(l:List V_),(h:ByteArray),_⟩ hp=>hq (.cl AN (l,(h,()),()) λ(z2:D_)=>.lf Fo (z2.1,())))
abbrev GY:Fct:=⟨[.v (.el .server),.v (.el .str)],[.el .int],λ(x:eR)=>x.1.files.length<=1000000000000,λ(x:eR)=>(fidx (λf=>decide (f.path=x.2.1)) x.1.files 0,())⟩
abbrev Cc (s:V_) (p:ByteArray):LInv:=⟨[⟨.s,5,true,.el .int⟩,⟨.b,2,false,.el .server⟩],λ(z x:dG)=>(0<=x.1/\x.1<=s.files.length/\fidx (λf=>decide (f.path=p)) (s.files.drop x.1.toNat) x.1=fidx (λf=>decide (f.path=p)) s.files 0)/\x.2.1=z.2.1,λ(x:dG)=>s.files.length-x.1.toNat⟩
def E74:=E73.a GY<|Fct.p (KP [1,2,4,5] [10,20]) (λ⟨s,p,_⟩=>lv [(2,Cc s p)]) E73.2 func94 (λ⟨(s:V_),(p:ByteArray),_⟩ hp=>hg (.lq (Int×V_×PUnit) (Cc s p).inv (Cc s p).m ((0:Int),(s,())) λy1 bk1=>.br (decide (y1.1<(y1.2.1.files.length:Int))) (.ob (inB y1.1 y1.2.1.files.length)<|.br ((y1.2.1.files.getD y1.1.toNat default).path.toList==p.toList) (.lf GY (y1.1,())) (.re (Value.string p)<|.bk (bk1 (w1 y1.1,(y1.2.1,()))))) (.lf GY ((-1:Int),()))) (an_ @fidx.eq_1<|@fidx.eq_2))
abbrev HH:Fct:=⟨[.v (.el .file),.p (.el .str)],[.el .bool],λ(x:aF×ByteArray×Unit)=>True,λ(x:aF×ByteArray×Unit)=>(decide (x.1.path=x.2.1),())⟩
def E75:=E74.a HH<|Fct.o [1,2,3] E74.2 func267 (λ⟨(f:aF),(p:ByteArray),_⟩ hp=>hq (.lf HH (f.path.toList==ByteArray.toList p,())))
abbrev A2:Fct:=⟨[aL .file,.c 267 [.el .str]],[rI],λx=>x.1.length<=1000000000000000000/\∀ c,HH.pre (c,x.2.1),λx=>(fidx (λc=>(HH.fn (c,x.2.1)).1) x.1 0,())⟩
abbrev Av (l:(List aF)) (u:(ByteArray×Unit)):LInv:=⟨[⟨.s,8,true,.el .int⟩],λ_ (x:D_)=>0<=x.1/\x.1<=l.length/\fidx (λc=>(HH.fn (c,u)).1) l 0=fidx (λc=>(HH.fn (c,u)).1) (l.drop x.1.toNat) x.1,λ(x:D_)=>l.length-x.1.toNat⟩
def E76:=E75.a A2<|Fct.p (KP [0,1,4,5,7,8] [9,16]) (λ⟨l,u,_⟩=>lv [(2,Av l u)]) E75.2 func266 (by
 rintro⟨(l:List aF),(u:E_),_⟩ hp;refine ho (lpx (Av l u) ((0:Int),()) λ(y1:D_) bk1=>.br (decide (y1.1<(l.length:Int))) (.ob (inB y1.1 l.length)<|.cl HH (l.getD y1.1.toNat default,u.1,()) λz2=>.br (z2.1) (.lf A2 (y1.1,())) (.re (l)<|.re (enc Ty.str u.1)<|.re (Value.int IntKind.i64 (l.length:Int))<|.bk (bk1 (w1 y1.1,())))) (.lf A2 ((-1:Int),()))) ?_;refine Ay ?_ λ(y1:D_) i1=>Z (λh2=>Ad ?_ λ_=>Ai trivial λ_=>Z (λh4=>Y ?_) λh4=>Al<|Al<|Al<|AR ?_) (λh2=>Y ?_)<;>(try simp only[std,Nat.reduceAdd] at *)<;>(try have hp2:=hp.2)<;>(try have hp1:=hp.1)<;>(first|trivial|omega|grind[FS,C_,B_,K_,I_,maxLen,fidx]))
def E77:=E76.a GY<|Fct.o [2,3,4] E76.2 func241 (λ⟨(s:V_),(p:ByteArray),_⟩ hp=>hq (.cl A2 (s.files,(p,()),()) λ(z2:D_)=>.lf GY (z2.1,())))
def answerTo (l:List V_) (a:HO):M_:=if fidx (λs=>decide (s.host=a.host)) l 0<0 then notF else if fidx (λf=>decide (f.path=a.path)) (l.getD (fidx (λs=>decide (s.host=a.host)) l 0).toNat default).files 0<0 then notF else((l.getD (fidx (λs=>decide (s.host=a.host)) l 0).toNat default).files.getD (fidx (λf=>decide (f.path=a.path)) (l.getD (fidx (λs=>decide (s.host=a.host)) l 0).toNat default).files 0).toNat default).bd
abbrev Eu:Fct:=⟨[.v (.sl .server),.v (.el .addr)],[.el .bd],λ(x:fT)=>U Af x.1<=68719476736,λ(x:fT)=>(answerTo x.1 x.2.1,())⟩
theorem q6 (l:List V_) (a:HO) (hp:Eu.pre (l,a,())):Out.holds (Eu.ctr (l,a,())).post (.cl Fo (l,a.host,()) λ(z2:D_)=>.br (decide (z2.1<0)) (.cl C2 () λz3=>.lf Eu (z3.1,())) (.ob (0<=z2.1/\z2.1<(↑(List.length l):Int))<|.cl GY (List.getD l z2.1.toNat default,a.path,()) λ(z4:D_)=>.br (decide (z4.1<0)) (.cl C2 () λz5=>.lf Eu (z5.1,())) (.ob (0<=z2.1/\z2.1<(↑(List.length l):Int))<|.ob (0<=z4.1/\z4.1<(↑(List.getD l z2.1.toNat default).files.length:Int))<|.lf Eu (((List.getD l z2.1.toNat default).files.getD z4.1.toNat default).bd,())))):=hz ((an_ @answerTo.eq_1<|an_ (Ac Af l)<|an_ (λi h=>by have:=Ih h;have hp2:U Af l<=68719476736:=hp;omega:∀ i,i<l.length->(l.getD i default).files.length<=68719476736)<|an_ (BU (λs:V_=>decide (s.host=a.host)) l 0 O)<|(λfs=>BU (λf:aF=>decide (f.path=a.path)) fs 0 O)))
def E78:=E77.a Eu<|Fct.o (KP [0,3,4,5,6] [12,22]) E77.2 func57 (λ⟨(l:List V_),(a:HO),_⟩ hp=>ho _ (q6 l a hp))
def E79:=E78.a Eu<|Fct.o (KP [0,3,4,5,6] [12,22]) E78.2 func198 (λ⟨(l:List V_),(a:HO),_⟩ hp=>ho _ (q6 l a hp))
abbrev Dl:Fct:=⟨[.v (.el .cache),.v (.el .str),.v (.el .addr)],[.el .int],λ(x:fU)=>x.1.bh.length<=1000000000000,λ(x:fU)=>(fidx (λe=>decide (e.top=x.2.1)&&decide (e.to=x.2.2.1)) x.1.bh 0,())⟩
abbrev C7 (c:aZ) (t:ByteArray) (a:HO):LInv:=⟨[⟨.s,7,true,.el .int⟩,⟨.b,3,false,.el .cache⟩,⟨.b,5,true,.el .addr⟩],λ(z x:fV)=>((0<=x.1/\x.1<=c.bh.length/\fidx (λe=>decide (e.top=t)&&decide (e.to=a)) (c.bh.drop x.1.toNat) x.1=fidx (λe=>decide (e.top=t)&&decide (e.to=a)) c.bh 0)/\x.2.1=z.2.1)/\x.2.2.1=z.2.2.1,λ(x:fV)=>c.bh.length-x.1.toNat⟩
def E80:=E79.a Dl<|Fct.p (KP [1,3,5,6,7] [12,32]) (λ⟨c,t,a,_⟩=>lv [(2,C7 c t a)]) E79.2 func147 (λ⟨(c:aZ),(t:ByteArray),(a:HO),_⟩ hp=>hg (let L_:=C7 c t a;.lq (Int×aZ×HO×PUnit) L_.inv L_.m ((0:Int),(c,(a,()))) λy1 bk1=>let O_:=inB y1.1 y1.2.1.bh.length;let J_:Out:=.re (Value.string t)<|.bk (bk1 (w1 y1.1,(y1.2.1,(y1.2.2.1,()))));let H_:=y1.2.1.bh.getD y1.1.toNat default;.br (decide (y1.1<(y1.2.1.bh.length:Int))) (.ob O_<|.br (H_.top.toList==t.toList) (.ob O_<|.br (H_.to.host==y1.2.2.1.host&&(H_.to.path==y1.2.2.1.path&&true)) (.lf Dl (y1.1,())) J_) J_) (.lf Dl ((-1:Int),()))) (an_ @fidx.eq_1<|@fidx.eq_2))
abbrev Fp:Fct:=⟨[.v (.el .entry),.p (.el .str),.p (.el .addr)],[.el .bool],λ(x:fW)=>True,λ(x:fW)=>(decide (x.1.top=x.2.1)&&decide (x.1.to=x.2.2.1),())⟩
def E81:=E80.a Fp<|Fct.o [1,2,3,4] E80.2 func277 (λ⟨(e:bJ),(t:ByteArray),(a:HO),_⟩ hp=>hq (.br (e.top.toList==ByteArray.toList t) (.lf Fp (e.to.host==a.host&&(e.to.path==a.path&&true),())) (.lf Fp (false,()))))
abbrev AT:Fct:=⟨[aL .entry,.c 277 [.el .str,.el .addr]],[rI],λx=>x.1.length<=1000000000000000000/\∀ c,Fp.pre (c,x.2.1),λx=>(fidx (λc=>(Fp.fn (c,x.2.1)).1) x.1 0,())⟩
abbrev Ao (l:(List bJ)) (u:(ByteArray×HO×Unit)):LInv:=⟨[⟨.s,8,true,.el .int⟩],λ_ (x:D_)=>0<=x.1/\x.1<=l.length/\fidx (λc=>(Fp.fn (c,u)).1) l 0=fidx (λc=>(Fp.fn (c,u)).1) (l.drop x.1.toNat) x.1,λ(x:D_)=>l.length-x.1.toNat⟩
def E82:=E81.a AT<|Fct.p (KP [0,1,4,5,7,8] [9,16]) (λ⟨l,u,_⟩=>lv [(2,Ao l u)]) E81.2 func238 (by
 rintro⟨(l:List bJ),(u:ByteArray×HO×PUnit),_⟩ hp;refine ho (lpx (Ao l u) ((0:Int),()) λ(y1:D_) bk1=>.br (decide (y1.1<(l.length:Int))) (.ob (inB y1.1 l.length)<|.cl Fp (l.getD y1.1.toNat default,u.1,u.2.1,()) λz2=>.br (z2.1) (.lf AT (y1.1,())) (.re (l)<|.re (enc Ty.str u.1)<|.re (enc Ty.addr u.2.1)<|.re (Value.int IntKind.i64 (l.length:Int))<|.bk (bk1 (w1 y1.1,())))) (.lf AT ((-1:Int),()))) ?_;refine Ay ?_ λ(y1:D_) i1=>Z (λh2=>Ad ?_ λ_=>Ai trivial λ_=>Z (λh4=>Y ?_) λh4=>Al<|Al<|Al<|Al<|AR ?_) (λh2=>Y ?_)<;>(try simp only[std,Nat.reduceAdd] at *)<;>(try have hp2:=hp.2)<;>(try have hp1:=hp.1)<;>(first|trivial|omega|grind[FS,C_,B_,K_,I_,maxLen,fidx]))
def E83:=E82.a Dl<|Fct.o [3,4,5,6] E82.2 func268 (λ⟨(c:aZ),(t:ByteArray),(a:HO),_⟩ hp=>hq (.cl AT (c.bh,(t,a,()),()) λ(z2:D_)=>.lf Dl (z2.1,())))
def freshEntry (t:ByteArray) (a:HO) (now:Int) (e:bJ):Bool:=decide (e.top=t)&&(decide (e.to=a)&&decide (now<=e.until_))
def lookUp (c:aZ) (t:ByteArray) (a:HO) (now:Int):Option M_:=(c.bh.find? (freshEntry t a now)).map (·.bd)
abbrev GQ:Fct:=⟨[.v (.el .cache),.v (.el .str),.v (.el .addr),.v (.el .int)],[.el .bd,.el .bool],λ(x:fX)=>x.1.bh.length<=1000000000000,λ(x:fX)=>((lookUp x.1 x.2.1 x.2.2.1 x.2.2.2.1).getD notF,(lookUp x.1 x.2.1 x.2.2.1 x.2.2.2.1).isSome,())⟩
def Sw {J:Type} [Inhabited J] (p:J->Bool):∀ (l:List J) (i:Int),0<=i->l.find? p=if 0<=fidx p l i then some (l.getD (fidx p l i-i).toNat default) else none:=by
 intro l
 induction l with
 | nil=>intro i _;simp[fidx]
 | cons x l ih=>
  intro i hi;simp only[List.find?_cons,fidx];by_cases hx:p x=true
  .simp[hx,hi]
  ·
   have hx:p x=false:=by simpa using hx
   have h1:=BU p l (i+1) O;have h2:=ih (i+1) O;simp only[hx,cD,aS,h2];split
   .rename_i h3;have h4:i+1<=fidx p l (i+1):=by
     have:∀ (l:List J) (i:Int),0<=i->0<=fidx p l i->i<=fidx p l i:=by
      intro l
      induction l with
      | nil=>intro i _ h;simp[fidx] at h
      | cons y l ih=>
       intro i hi h;simp only[fidx] at h ⊢;split
       .omega
       .grind
     grind
    have h5:(fidx p l (i+1)-i).toNat=(fidx p l (i+1)-(i+1)).toNat+1:=O
    rw[h5];rfl
   .rfl
abbrev EC (c:aZ) (t:ByteArray) (a:HO) (now:Int):LInv:=⟨[⟨.s,10,true,.el .int⟩,⟨.b,4,false,.el .cache⟩,⟨.b,6,true,.el .addr⟩,⟨.b,8,true,.el .bd⟩],λ(z x:fY)=>(((0<=x.1/\x.1<=c.bh.length/\(c.bh.drop x.1.toNat).find? (freshEntry t a now)=c.bh.find? (freshEntry t a now))/\x.2.1=z.2.1)/\x.2.2.1=z.2.2.1)/\x.2.2.2.1=z.2.2.2.1,λ(x:fY)=>c.bh.length-x.1.toNat⟩
def E84:=E83.a GQ<|Fct.p (KP [1,3,4,6,8,9,10] [15,45]) (λ⟨c,t,a,now,_⟩=>lv [(2,EC c t a now)]) E83.2 func56 (λ⟨(c:aZ),(t:ByteArray),(a:HO),(now:Int),_⟩ hp=>hg (let O_:=EC c t a now;.lq (Int×aZ×HO×M_×PUnit) O_.inv O_.m ((0:Int),(c,(a,(default,())))) λy1 bk1=>let L_:=inB y1.1 y1.2.1.bh.length;let J_:=y1.2.1.bh.getD y1.1.toNat default;let H_:Out:=.re (Value.string t)<|.re (Value.int IntKind.i64 now)<|.bk (bk1 (w1 y1.1,(y1.2.1,(y1.2.2.1,(y1.2.2.2.1,())))));.br (decide (y1.1<(y1.2.1.bh.length:Int))) (.ob L_<|.br (J_.top.toList==t.toList) (.ob L_<|.br (J_.to.host==y1.2.2.1.host&&(J_.to.path==y1.2.2.1.path&&true)) (.ob L_<|.br (decide (J_.until_>=now)) (.ob L_<|.lf GQ (J_.bd,true,())) H_) H_) H_) (.cl C2 () λz2=>.lf GQ (z2.1,false,()))) (an_ @lookUp.eq_1<|@freshEntry.eq_1))
abbrev FO:Fct:=⟨[.v (.el .entry),.p (.el .str),.p (.el .addr),.p (.el .int)],[.el .bool],λ(x:fZ)=>True,λ(x:fZ)=>(freshEntry x.2.1 x.2.2.1 x.2.2.2.1 x.1,())⟩
def E85:=E84.a FO<|Fct.o [1,2,3,4,5] E84.2 func239 (λ⟨(e:bJ),(t:ByteArray),(a:HO),(now:Int),_⟩ hp=>hg (.br (e.top.toList==ByteArray.toList t) (.br (e.to.host==a.host&&(e.to.path==a.path&&true)) (.lf FO (decide (e.until_>=now),())) (.lf FO (false,()))) (.lf FO (false,()))) (@freshEntry.eq_1))
abbrev AZ:Fct:=⟨[aL .entry,.c 239 [.el .str,.el .addr,.el .int]],[rI],λx=>x.1.length<=1000000000000000000/\∀ c,FO.pre (c,x.2.1),λx=>(fidx (λc=>(FO.fn (c,x.2.1)).1) x.1 0,())⟩
abbrev Aq (l:(List bJ)) (u:(ByteArray×HO×Int×Unit)):LInv:=⟨[⟨.s,8,true,.el .int⟩],λ_ (x:D_)=>0<=x.1/\x.1<=l.length/\fidx (λc=>(FO.fn (c,u)).1) l 0=fidx (λc=>(FO.fn (c,u)).1) (l.drop x.1.toNat) x.1,λ(x:D_)=>l.length-x.1.toNat⟩
def E86:=E85.a AZ<|Fct.p (KP [0,1,4,5,7,8] [9,16]) (λ⟨l,u,_⟩=>lv [(2,Aq l u)]) E85.2 func238 (by
 rintro⟨(l:List bJ),(u:ByteArray×HO×Int×PUnit),_⟩ hp;refine ho (lpx (Aq l u) ((0:Int),()) λ(y1:D_) bk1=>.br (decide (y1.1<(l.length:Int))) (.ob (inB y1.1 l.length)<|.cl FO (l.getD y1.1.toNat default,u.1,u.2.1,u.2.2.1,()) λz2=>.br (z2.1) (.lf AZ (y1.1,())) (.re (l)<|.re (enc Ty.str u.1)<|.re (enc Ty.addr u.2.1)<|.re (enc Ty.int u.2.2.1)<|.re (Value.int IntKind.i64 (l.length:Int))<|.bk (bk1 (w1 y1.1,())))) (.lf AZ ((-1:Int),()))) ?_;refine Ay ?_ λ(y1:D_) i1=>Z (λh2=>Ad ?_ λ_=>Ai trivial λ_=>Z (λh4=>Y ?_) λh4=>Al<|Al<|Al<|Al<|Al<|AR ?_) (λh2=>Y ?_)<;>(try simp only[std,Nat.reduceAdd] at *)<;>(try have hp2:=hp.2)<;>(try have hp1:=hp.1)<;>(first|trivial|omega|grind[FS,C_,B_,K_,I_,maxLen,fidx]))
def E87:=E86.a GQ<|Fct.o (KP [4,5,6,7,8,9,10] [16]) E86.2 func197 (λ⟨(c:aZ),(t:ByteArray),(a:HO),(now:Int),_⟩ hp=>hg (.cl AZ (c.bh,(t,a,now,()),()) λ(z2:D_)=>.br (decide (z2.1<0)) (.cl C2 () λz3=>.lf GQ (z3.1,false,())) (.ob (inB z2.1 c.bh.length)<|.lf GQ ((c.bh.getD z2.1.toNat default).bd,true,()))) (an_ @lookUp.eq_1<|an_ (BU (freshEntry t a now) c.bh 0 O)<|(Sw (freshEntry t a now) c.bh 0 O)))
def modM (n m:Int):Int:=if 1<=m/\m<=1000000000000 then n.emod m else 0
abbrev Agz:Fct:=⟨[.v (.el .int),.v (.el .int)],[.el .int],λ(x:aR)=>-9223372036854775808<=x.1/\x.1<=9223372036854775807,λ(x:aR)=>(modM x.1 x.2.1,())⟩
def OH {n m:Int} (hm:0<m):(n.tmod m+m).tmod m=n.emod m:=by
 have h1:=Int.tmod_lt_of_pos n hm;have h2 : -m<n.tmod m:=by have:=Int.lt_tmod_of_pos n hm;omega
 rw[Int.tmod_eq_emod_of_nonneg O];rw[Int.tmod_eq_emod];split
 .simp;rfl
 .rw[show n % m-m.natAbs+m=n % m from O];simp;rfl
def O6 {n m:Int} (hm:0<m):(if n.tmod m<0 then n.tmod m+m else n.tmod m)=n.emod m:=by
 have h0:=Int.emod_nonneg n (show m≠0 from O);have h3:=Int.emod_lt_of_pos n hm;have e0:n.emod m=n % m:=rfl;grind
def E88:=E87.a Agz<|Fct.o (KP [0,1,4] [7]) E87.2 func276 (by
 rintro⟨(n:Int),(m:Int),_⟩ hp;refine ho (.cl Ap (m,(1:Int),(1000000000000:Int),()) λz2=>.br (!z2.1) (.lf Agz ((0:Int),())) (.ob (m≠(0:Int))<|.ob (m≠(0:Int))<|.lf Agz ((wr (Int.tmod n m+m)).tmod m,()))) ?_;refine Ai trivial λ_=>(Z (λh1=>Y ?_) λh1=>Ad ?_ λ_=>Ad ?_ λ_=>Y ?_)<;>(by_cases hm:1<=m/\m<=1000000000000)<;>(try have e1:=OH (n:=n) (m:=m) O)<;>(try have e2:=O6 (n:=n) (m:=m) O)<;>(try have e3:=Int.tmod_lt_of_pos n (show 0<m from O))<;>(try have e4:=Int.lt_tmod_of_pos n (show 0<m from O))<;>(try simp only[std,Nat.reduceAdd,inRange,modM] at *)<;>(try simp(disch:=omega) only[FS,C_] at *)<;>(try simp(disch:=omega) only[G_,F_])<;>(try simp only[T_,fB,az,cw] at *)<;>(first|omega|skip)<;>(try rw[AE O])<;>(try rw[G_ hm])<;>(first|omega|exact e1|(rw[G_ O] at e2;exact e2)|(rw[F_ O] at e2;exact e2)|(rw[F_ hm])))
def E89:=E88.a Agz<|Fct.o (KP [0,1,4,5] [8,13]) E88.2 func275 (by
 rintro⟨(n:Int),(m:Int),_⟩ hp;refine ho (.cl Ap (m,(1:Int),(1000000000000:Int),()) λz2=>.br (!z2.1) (.lf Agz ((0:Int),())) (.ob (m≠(0:Int))<|.br (decide (Int.tmod n m<0)) (.lf Agz (wr (Int.tmod n m+m),())) (.lf Agz (Int.tmod n m,())))) ?_;refine Ai trivial λ_=>(Z (λh1=>Y ?_) λh1=>Ad ?_ λ_=>Z (λh3=>Y ?_) λh3=>Y ?_)<;>(by_cases hm:1<=m/\m<=1000000000000)<;>(try have e1:=OH (n:=n) (m:=m) O)<;>(try have e2:=O6 (n:=n) (m:=m) O)<;>(try have e3:=Int.tmod_lt_of_pos n (show 0<m from O))<;>(try have e4:=Int.lt_tmod_of_pos n (show 0<m from O))<;>(try simp only[std,Nat.reduceAdd,inRange,modM] at *)<;>(try simp(disch:=omega) only[FS,C_] at *)<;>(try simp(disch:=omega) only[G_,F_])<;>(try simp only[T_,fB,az,cw] at *)<;>(first|omega|skip)<;>(try rw[AE O])<;>(try rw[G_ hm])<;>(first|omega|exact e1|(rw[G_ O] at e2;exact e2)|(rw[F_ O] at e2;exact e2)|(rw[F_ hm])))
def hashI:List Int->Int->Int
 | [],d=>d
 | x::l,d=>hashI l ((d*1000003+modM x 2147483647+13).tmod 2147483647)
def We {l:List Int} {i:Nat} {d:Int} (h:i<l.length):hashI (l.drop i) d=hashI (l.drop (i+1)) ((d*1000003+modM (l.getD i default) 2147483647+13).tmod 2147483647):=by rw[B_ h];rfl
def Sy {l:List Int} {i:Nat} {d:Int} (h:l.length<=i):hashI (l.drop i) d=d:=by rw[cx h];rfl
def Ln (x:Int):0<=modM x 2147483647/\modM x 2147483647<2147483647:=by
 have h0:=Int.emod_nonneg x (show(2147483647:Int)≠0 from O);have h3:=Int.emod_lt_of_pos x (show(0:Int)<2147483647 from O);have e0:modM x 2147483647=x % 2147483647:=rfl;omega
def Lo {x:Int} (h:0<=x):0<=x.tmod 2147483647/\x.tmod 2147483647<2147483647:=by
 grind
abbrev Aa9:Fct:=⟨[.v (.sl .int)],[.el .int],λ(x:ak)=>x.1.length<=1000000000000/\∀ i,i<x.1.length->-9223372036854775808<=x.1.getD i default/\x.1.getD i default<=9223372036854775807,λ(x:ak)=>(hashI x.1 11,())⟩
abbrev F2 (l:(List Int)):LInv:=⟨[⟨.s,3,true,.el .int⟩,⟨.s,4,true,.el .int⟩],λ_ (x:aR)=>0<=x.2.1/\x.2.1<=l.length/\0<=x.1/\x.1<2147483647/\hashI (l.drop x.2.1.toNat) x.1=hashI l 11,λ(x:aR)=>l.length-x.2.1.toNat⟩
def E90:=E89.a Aa9<|Fct.p (KP [0,2,3,4] [8]) (λ⟨l,_⟩=>lv [(3,F2 l)]) E89.2 func257 (by
 rintro⟨(l:List Int),_⟩ hp;refine ho (lpx (F2 l) ((11:Int),((0:Int),())) λ(y1:aR) bk1=>.br (decide (y1.2.1<(l.length:Int))) (.ob (inB y1.2.1 l.length)<|.cl Agz (l.getD y1.2.1.toNat default,(2147483647:Int),()) λ(z2:D_)=>.ob ((2147483647:Int)≠(0:Int))<|.ob (l=l)<|.ob (Value.int IntKind.i64 0=Value.int IntKind.i64 (0:Int))<|.ob (bk1 ((wr (wr (wr (y1.1*(1000003:Int))+z2.1)+13)).tmod (2147483647:Int),(w1 y1.2.1,())))<|.ok) (.lf Aa9 (y1.1,()))) ?_;refine Ay ?_ λ(y1:aR) i1=>Z (λh2=>Ad ?_ λ_=>Ai ?_ λ_=>Ad ?_ λ_=>Ad rfl λ_=>Ad rfl λ_=>Ad ?_ λ_=>trivial) (λh2=>Y ?_)<;>(try simp only[std,Nat.reduceAdd] at *)<;>obtain⟨hp1,hp2⟩:=hp<;>(try obtain⟨a1,a2,a3,a4,a5⟩:=i1)<;>(try have hm:=Ln (l.getD y1.2.1.toNat default);have ht:=Lo (x:=y1.1*1000003+modM (l.getD y1.2.1.toNat default) 2147483647+13) O)<;>(try simp(disch:=omega) only[FS,C_] at *)<;>(first|trivial|omega|exact⟨O,O,O,O,rfl⟩|exact hp2 _ O|skip)
 .rw[We O] at a5;exact⟨⟨O,O,ht.1,ht.2,a5⟩,O⟩
 .rw[Sy O] at a5;exact a5)
abbrev F6 (l:(List Int)):LInv:=⟨[⟨.s,3,true,.el .int⟩,⟨.s,8,true,.el .int⟩],λ_ (x:aR)=>0<=x.2.1/\x.2.1<=l.length/\0<=x.1/\x.1<2147483647/\hashI (l.drop x.2.1.toNat) x.1=hashI l 11,λ(x:aR)=>l.length-x.2.1.toNat⟩
def E91:=E90.a Aa9<|Fct.p (KP [0,2,3,5,6,7,8] [9]) (λ⟨l,_⟩=>lv [(3,F6 l)]) E90.2 func248 (by
 rintro⟨(l:List Int),_⟩ hp;refine ho (lpx (F6 l) ((11:Int),((0:Int),())) λ(y1:aR) bk1=>.br (decide (y1.2.1<(l.length:Int))) (.ob (inB y1.2.1 l.length)<|.cl Agz (l.getD y1.2.1.toNat default,(2147483647:Int),()) λ(z2:D_)=>.ob ((2147483647:Int)≠(0:Int))<|.ob (l=l)<|.ob (Value.int IntKind.i64 0=Value.int IntKind.i64 (0:Int))<|.ob (l=l)<|.ob (Value.int IntKind.i64 (l.length:Int)=Value.int IntKind.i64 (l.length:Int))<|.ob (bk1 ((wr (wr (wr (y1.1*(1000003:Int))+z2.1)+13)).tmod (2147483647:Int),(w1 y1.2.1,())))<|.ok) (.lf Aa9 (y1.1,()))) ?_;refine Ay ?_ λ(y1:aR) i1=>Z (λh2=>Ad ?_ λ_=>Ai ?_ λ_=>Ad ?_ λ_=>Ad rfl λ_=>Ad rfl λ_=>Ad rfl λ_=>Ad rfl λ_=>Ad ?_ λ_=>trivial) (λh2=>Y ?_)<;>(try simp only[std,Nat.reduceAdd] at *)<;>obtain⟨hp1,hp2⟩:=hp<;>(try obtain⟨a1,a2,a3,a4,a5⟩:=i1)<;>(try have hm:=Ln (l.getD y1.2.1.toNat default);have ht:=Lo (x:=y1.1*1000003+modM (l.getD y1.2.1.toNat default) 2147483647+13) O)<;>(try simp(disch:=omega) only[FS,C_] at *)<;>(first|trivial|omega|exact⟨O,O,O,O,rfl⟩|exact hp2 _ O|skip)
 .rw[We O] at a5;exact⟨⟨O,O,ht.1,ht.2,a5⟩,O⟩
 .rw[Sy O] at a5;exact a5)
def bti (b l:List Int):List Int:=(b.length:Int)::l
abbrev Fu:Fct:=⟨[.v (.sl .u8)],[.sl .int],λ(x:ak)=>x.1.length<=68719476736/\∀ i,i<x.1.length->0<=x.1.getD i default/\x.1.getD i default<=255,λ(x:ak)=>(bti x.1 x.1,())⟩
abbrev Bg (b:(List Int)):LInv:=⟨[⟨.s,3,true,.sl .int⟩,⟨.s,4,true,.el .int⟩],λ_ (x:bL)=>0<=x.2.1/\x.2.1<=b.length/\x.1=bti b (b.take x.2.1.toNat),λ(x:bL)=>b.length-x.2.1.toNat⟩
def E92:=E91.a Fu<|Fct.p (KP [0,2,3,4] [11]) (λ⟨b,_⟩=>lv [(3,Bg b)]) E91.2 func258 (λ⟨(b:List Int),_⟩ hp=>hg (.lq (List Int×Int×PUnit) (Bg b).inv (Bg b).m ([(b.length:Int)],((0:Int),())) λy1 bk1=>.br (decide (y1.2.1<(b.length:Int))) (.ob (inB y1.2.1 b.length)<|.ap (y1.1.length+[wr (b.getD y1.2.1.toNat default)].length) 8<|.re (b)<|.bk (bk1 (y1.1++[wr (b.getD y1.2.1.toNat default)],(w1 y1.2.1,())))) (.lf Fu (y1.1,()))) (an_ @Q_<|an_ @bO<|@bti.eq_1))
abbrev Bc (b:(List Int)):LInv:=⟨[⟨.s,3,true,.sl .int⟩,⟨.s,11,true,.el .int⟩],λ_ (x:bL)=>0<=x.2.1/\x.2.1<=b.length/\x.1=bti b (b.take x.2.1.toNat),λ(x:bL)=>b.length-x.2.1.toNat⟩
def E93:=E92.a Fu<|Fct.p (KP [0,2,3,5,9,10,11] [12]) (λ⟨b,_⟩=>lv [(3,Bc b)]) E92.2 func249 (λ⟨(b:List Int),_⟩ hp=>hg (.lq (List Int×Int×PUnit) (Bc b).inv (Bc b).m ([(b.length:Int)],((0:Int),())) λy1 bk1=>.br (decide (y1.2.1<(b.length:Int))) (.ob (inB y1.2.1 b.length)<|.ap (y1.1.length+[wr (b.getD y1.2.1.toNat default)].length) 8<|.re (b)<|.re (b)<|.re (Value.int IntKind.i64 (b.length:Int))<|.bk (bk1 (y1.1++[wr (b.getD y1.2.1.toNat default)],(w1 y1.2.1,())))) (.lf Fu (y1.1,()))) (an_ @Q_<|an_ @bO<|@bti.eq_1))
abbrev AO:Fct:=⟨[.v (.el .int)],[.el .str],λ(x:D_)=>-9223372036854775808<=x.1/\x.1<=9223372036854775807,λ(x:D_)=>(RL x.1,())⟩
abbrev CC (n:Int):LInv:=⟨[⟨.s,3,true,.el .str⟩,⟨.s,4,true,.el .int⟩],λ_ (x:aa)=>n≠0/\-9223372036854775808<=x.2.1/\x.2.1<=9223372036854775807/\(x.2.1:Int).natAbs+4*x.1.size<=n.natAbs+(if x.2.1=0 then 4 else 0)/\Agt (x.2.1:Int).natAbs x.1=Agt n.natAbs ⟨#[]⟩,λ(x:aa)=>(x.2.1:Int).natAbs⟩
def E94:=E93.a AO<|Fct.p (KP [0,2,3,4,5] [7,10,16,27]) (λ⟨n,_⟩=>lv [(5,CC n)]) E93.2 func217 (by
 rintro⟨(n:Int),_⟩ hp;refine ho (let aq:=(⟨#[45]⟩:ByteArray);let L_:=(10:Int)≠(0:Int);let H_:=(⟨#[]⟩:ByteArray);let Y_:=Value.string H_=Value.string H_;.br (n==0) (.lf AO ((⟨#[48]⟩:ByteArray),())) (lpx (CC n) (H_,(n,())) λ(y2:aa) bk2=>let ay:=y2.2.1.tdiv (10:Int);let O_:=wr ((48:Int)+y2.2.1.tmod (10:Int));let J_:=wr ((48:Int)+wr ((0:Int)-y2.2.1.tmod (10:Int)));.br (y2.2.1 != 0) (.ob L_<|.br (decide (y2.2.1.tmod (10:Int)<(0:Int))) (.ob (True)<|.ob (sameSize (List.foldl (λr n=>r.push (UInt8.ofNat n.toNat)) ByteArray.empty [IntKind.u8.wrap J_]) y2.1)<|.ob L_<|.ob (Value.int IntKind.i64 n=Value.int IntKind.i64 n)<|.ob Y_<|.ob (bk2 (List.foldl (λr n=>r.push (UInt8.ofNat n.toNat)) ByteArray.empty [IntKind.u8.wrap J_]++y2.1,(wr ay,())))<|.ok) (.ob (True)<|.ob (sameSize (List.foldl (λr n=>r.push (UInt8.ofNat n.toNat)) ByteArray.empty [IntKind.u8.wrap O_]) y2.1)<|.ob L_<|.ob (Value.int IntKind.i64 n=Value.int IntKind.i64 n)<|.ob Y_<|.ob (bk2 (List.foldl (λr n=>r.push (UInt8.ofNat n.toNat)) ByteArray.empty [IntKind.u8.wrap O_]++y2.1,(wr ay,())))<|.ok)) (.br (decide (n<0)) (.ob (sameSize aq y2.1)<|.lf AO (aq++y2.1,())) (.lf AO (y2.1,()))))) ?_;refine Z (λh1=>Y ?_) λh1=>Ay ?_ λ(y2:aa) i2=>Z (λh3=>Ad ?_ λ_=>Z (λh5=>Ad trivial λ_=>Ad ?_ λ_=>Ad ?_ λ_=>Ad rfl λ_=>Ad rfl λ_=>Ad ?_ λ_=>trivial) λh5=>Ad trivial λ_=>Ad ?_ λ_=>Ad ?_ λ_=>Ad rfl λ_=>Ad rfl λ_=>Ad ?_ λ_=>trivial) λh3=>Z (λh12=>Ad ?_ λ_=>Y ?_) λh12=>Y ?_;all_goals try (have hk:=Nat.mod_lt y2.2.1.natAbs (show 0<10 from O);have ht:=AfL y2.2.1)
 all_goals (try have hv:=AeA y2.2.1)<;>(try simp only[std,Nat.reduceAdd] at *)<;>(first|trivial|omega|skip)<;>(try obtain⟨a1,a2,a3,a4,a5⟩:=i2)<;>(first|trivial|omega|skip)<;>(try simp only[h5,aD,aS] at ht)<;>(try rw[F_ O] at ht)<;>(try rw[AE (n:=0-_) O,show(0:Int)-y2.2.1.tmod 10=((y2.2.1.natAbs % 10:Nat):Int) from O,AoW hk,Adk hk] at *)<;>(try rw[ht,AoW hk,Adk hk] at *)<;>(try rw[F_ h3] at a4)<;>(try have e1:IntKind.i64.wrap (y2.2.1.tdiv 10)=y2.2.1.tdiv 10:=AE O;rw[e1])
 .rw[h1,Aaf]
 .unfold sameSize;rw[show ByteArray.size ⟨#[UInt8.ofNat (48+y2.2.1.natAbs % 10)]⟩=1 from rfl];omega
 .rw[RV O] at a5;rw[hv,aQ,show ByteArray.size ⟨#[UInt8.ofNat (48+y2.2.1.natAbs % 10)]⟩=1 from rfl];exact⟨⟨h1,O,O,by split<;>omega,a5⟩,O⟩
 .unfold sameSize;rw[show ByteArray.size ⟨#[UInt8.ofNat (48+y2.2.1.natAbs % 10)]⟩=1 from rfl];omega
 .rw[RV O] at a5;have hv':((y2.2.1.natAbs:Nat):Int)=y2.2.1.natAbs:=rfl;rw[hv,aQ,show ByteArray.size ⟨#[UInt8.ofNat (48+y2.2.1.natAbs % 10)]⟩=1 from rfl];exact⟨⟨h1,O,O,by split<;>omega,a5⟩,O⟩
 .unfold sameSize;rw[show ByteArray.size ⟨#[45]⟩=1 from rfl];rw[G_ h3] at a4;omega
 .rw[h3] at a5;rw[Afr h12,<-a5];rfl
 .rw[h3] at a5;rw[AfP O,<-a5];rfl)
def Afm:Go.Proofs.LaysM.n171 Tryz.prog laysCmp_r:=by repeat' first|kernel_rfl|constructor|intro _
def E95:=E94.a AjX<|AjK k_ (Go.Proofs.Any.strconv_Itoa Afm)
def E96:=E95.a AO<|Fct.o [0,2] E95.2 func201 (λ⟨(n:Int),_⟩ hp=>hq (.cl AjX (n,()) λz2=>.lf AO (z2.1,())))
def Rp (x:Int):0<=bits .and .i64 x 255/\bits .and .i64 x 255<=255:=by
 have h:(BitVec.ofInt 64 x &&& BitVec.ofInt 64 255).toNat<=255:=by rw[BitVec.toNat_and];exact Nat.and_le_right
 have e:bits .and .i64 x 255=((BitVec.ofInt 64 x &&& BitVec.ofInt 64 255).toNat:Int):=by show IntKind.i64.wrap ((BitVec.ofInt 64 x &&& BitVec.ofInt 64 255).toNat:Int)=_;exact FS O O
 rw[e];omega
open Go.RowKit in
set_option maxHeartbeats 2000000 in
def Aek (g n cap:Nat) (i:Nat) (h:Int) (ad:Option Addr) (w:World) (hi1:i<=9223372036854775807) (hn:n<=1000000000000000000)
 (hx0:w.cell? ⟨g,0,none⟩=some (.slice ad n cap)) (hx1:w.cell? ⟨g,1,none⟩=some (.int .i64 i)) (hx2:w.cell? ⟨g,2,none⟩=some (.int .i64 h))
 (f1:w.frozen? ⟨g,1,none⟩=false) (f2:w.frozen? ⟨g,2,none⟩=false)
 (hb:i<n->∃ gb ob z,ad=some ⟨gb,ob,none⟩/\gb≠g/\w.cell? ⟨gb,ob+i,none⟩=some (.int .u8 z)) :
 Calls Tryz.prog 87 #[.pointer (some ⟨g,0,none⟩)] w λe w'=>∃ (x:Int) (i':Nat) (h':Int) (q:Nat),e=.returned (.int .i64 x)/\0<=x/\x<=255/\i'<=9223372036854775807/\((∃ k,h'=wrap64 k) /\
  (w'=((w.setCell ⟨g,2,none⟩ (.int .i64 h')).drewN q).setCell ⟨g,1,none⟩ (.int .i64 i')\/(i'=i/\∃ q',w'=((w.setCell ⟨g,2,none⟩ (.int .i64 h')).drewN q').drewN q))):=by
 go_enter func87,Tryz.ntmps87
 go_wp2
 go_quiet (fail)
 go_wp2
 go_quiet (fail)
 go_wp2
 .have hlt:i<n:=O
  obtain⟨gb,ob,z,rfl,hne,hz⟩:=hb hlt;clear hb;have hz':(w.setCell ⟨g,2,none⟩ (Value.int IntKind.i64 (IntKind.i64.wrap (IntKind.i64.wrap (h*6364136223846793005)+1442695040888963407)))).cell? ⟨gb,ob+i,none⟩=some (.int .u8 z):=by rw[World.cell?_setCell_other];exact hz;simp
  go_quiet (fail)
  go_wp2
  go_ret
  exact⟨_,i+1,_,_,rfl,(Rp _).1,(Rp _).2,O,⟨_,rfl⟩,.inl rfl⟩
 .go_ret
  exact⟨_,i,_,_,rfl,(Rp _).1,(Rp _).2,O,⟨_,rfl⟩,.inr ⟨rfl,_,rfl⟩⟩
open Go.RowKit in
def AfA (k:Int) : -9223372036854775808<=wrap64 k/\wrap64 k<=9223372036854775807:=by
 unfold wrap64;omega
def V2 {w:World} {g j:Nat} {r:Array Value} {e:TypeId} {v:Value} (h:w.heap[g]? = some (.cells r e (0,0))):(w.setCell ⟨g,j,none⟩ v).heap[g]? = some (.cells (r.setIfInBounds j v) e (0,0))/\(∀ b,b≠g->(w.setCell ⟨g,j,none⟩ v).heap[b]? = w.heap[b]?)/\(w.setCell ⟨g,j,none⟩ v).heap.size=w.heap.size:=by
 refine⟨?_,λb hb=>?_,?_⟩
 .simp[World.setCell,Array.getElem?_modify,h]
 .simp[World.setCell,Array.getElem?_modify,Ne.symm hb]
 .simp[World.setCell]
abbrev YL:Xct:=⟨[.u],[.el .int],λ(x:S_)=>True,λ(x:S_) (y:D_)=>0<=y.1/\y.1<=255⟩
open Go.RowKit in
def Ajw:YL.ok Tryz.prog 87:=by
 rintro⟨u,⟨⟩⟩ _;intro w vs G hB hA;obtain⟨v0,hv0,g,rfl,hg⟩:=hA.tm 0 .cur rfl;have hvs:vs = #[.pointer (some ⟨g,0,none⟩)]:=by
  apply Array.ext
  .rw[hA.sz];rfl
  .intro i h1 h2
   match i,h1,h2 with
   | 0,h1,h2=>rw[Array.getElem?_eq_getElem h1] at hv0;injection hv0
   | i+1,h1,h2=>exact absurd (show i+1<1 from h2) O
 subst hvs;obtain⟨xs,b,i,h,ty,hh,hb,hl,hi0,hi1,hh0,hh1⟩:=hA.cr g hg;obtain⟨a,cap,rfl,hcap,hrow⟩:=hb;obtain⟨i,rfl⟩:∃ k:Nat,i=k:=⟨i.toNat,O⟩;have c0:∀ j,w.cell? ⟨g,j,none⟩=(#[Value.slice a xs.length cap,.int .i64 (i:Int),.int .i64 h]:Array Value)[j]?:=λj=>by simp[World.cell?,hh]
 have fz:∀ j,w.frozen? ⟨g,j,none⟩=false:=λj=>by simp[World.frozen?,hh]
 refine(Aek g xs.length cap i h a w O hl (c0 0) (c0 1) (c0 2) (fz 1) (fz 2) λhlt=>?_).mono ?_
 .rcases hrow with h0|⟨gb,ob,row,e,fr,rfl,hs,hbk,hc⟩
  .omega
  .obtain⟨u,hu,hr⟩:=hc i hlt 0 (by decide);have e0:cell .u8 xs i 0=(enc .u8 xs[i]).getD 0 .nl:=GF (t:=.u8) (xs:=xs) (by simp[hlt]) 0;have hr:TR w (src G none) (fcC (cell .u8 xs i 0)) u:=hr;rw[e0] at hr;obtain⟨rfl,_⟩:=hr;refine⟨gb,ob,xs[i],rfl,λe=>?_,?_⟩
   .subst e;rw[show G.ow gb=.free from hs] at hg;cases hg
   .have:ob+i*Ty.u8.width+0=ob+i:=by show ob+i*1+0=ob+i;omega
    rw[this] at hu;simp[World.cell?,hbk,hu]
 .rintro e w' ⟨x,i',h',q,rfl,hx0,hx1,hi',⟨k,rfl⟩,hw⟩;have hk:=AfA k;obtain⟨s1,s2,s3⟩:=V2 (j:=2) (v:=.int .i64 (wrap64 k)) hh;have fin:Onward w w'/\(∀ b,b≠g->w'.heap[b]? = w.heap[b]?)/\CurStep w w' g:=by
   rcases hw with rfl|⟨rfl,q',rfl⟩
   .obtain⟨t1,t2,t3⟩:=V2 (w:=(w.setCell ⟨g,2,none⟩ (.int .i64 (wrap64 k))).drewN q) (j:=1) (v:=.int .i64 (i':Int)) s1;refine⟨⟨rfl,rfl,⟨rfl,DrLe.add _ _⟩,?_⟩,λb hb=>(t2 b hb).trans (s2 b hb),?_⟩
    .rw[t3];exact Nat.le_of_eq s3.symm
    .exact⟨_,_,_,i',_,_,hh,t1,O,O,hk.1,hk.2⟩
   .refine⟨⟨rfl,rfl,⟨rfl,DrLe.trans (DrLe.add _ _) (DrLe.add _ _)⟩,Nat.le_of_eq s3.symm⟩,λb hb=>s2 b hb,?_⟩;exact⟨_,_,_,i',_,_,hh,s1,O,O,hk.1,hk.2⟩
  obtain⟨f1,f2,f3⟩:=fin;refine⟨_,_,⟨(x,()),⟨hx0,hx1⟩,rfl⟩,rfl,f1,λb hb=>f2 b λe=>?_,λb hb=>?_,λ_ _=>False,by simp,by simp,?_,?_,?_⟩
  .subst e;rw[hg] at hb;cases hb
  .by_cases e:b=g
   .subst e;exact f3
   .exact(hA.cr b hb).same (f2 b e)
  .exact⟨_,rfl,⟨rfl,rfl⟩,rfl⟩
  .intro m T hm;cases hm
  .intro b cs hb;cases hb
def Aaz (x:Int):0<=bits .and .i64 x 1073741823/\bits .and .i64 x 1073741823<=1073741823:=by
 have h:(BitVec.ofInt 64 x &&& BitVec.ofInt 64 1073741823).toNat<=1073741823:=by rw[BitVec.toNat_and];exact Nat.and_le_right
 have e:bits .and .i64 x 1073741823=((BitVec.ofInt 64 x &&& BitVec.ofInt 64 1073741823).toNat:Int):=by show IntKind.i64.wrap ((BitVec.ofInt 64 x &&& BitVec.ofInt 64 1073741823).toNat:Int)=_;exact FS O O
 rw[e];omega
open Go.RowKit in
set_option maxRecDepth 100000 in
set_option maxHeartbeats 2000000 in
def Ae6 (n cap:Nat) (ad:Option Addr) (w:World) (hn:n<=1000000000000000000) (hb:∀ i,i<n->∃ gb ob z,ad=some ⟨gb,ob,none⟩/\w.cell? ⟨gb,ob+i,none⟩=some (.int .u8 z)) :
 Calls Tryz.prog 17 #[.slice ad n cap] w λe w'=>∃ (h:Int) (q:Nat),e=.returned (.pointer (some ⟨w.heap.size,0,none⟩))/\-9223372036854775808<=h/\h<=9223372036854775807/\w'=(w.drewN q).alloc (.cells #[.slice ad n cap,.int .i64 0,.int .i64 h] 97):=by
 go_enter func17,Tryz.ntmps17
 go_wp2
 go_loop [3,4] (λh i=>∃ (k:Nat) (x:Int),k<=4000/\i=.int .i64 k/\h=.int .i64 x/\-9223372036854775808<=x/\x<=9223372036854775807) (λ_ i=>4001-(intOf i).toNat)
 case atStart=>exact⟨0,_,O,rfl,rfl,O,O⟩
 case round=>
  obtain⟨k,x,hk,rfl,rfl,hx0,hx1⟩:=hrel;by_cases h1:k<n
  .by_cases h2:k<4000
   .obtain⟨gb,ob,z,rfl,hz⟩:=hb k h1;clear hb
    go_wp2
    go_round
    case rel=>exact⟨k+1,_,O,by go_num,rfl,Int.le_trans O (Aaz _).1,Int.le_trans (Aaz _).2 O⟩
    case measure=>simp only[intOf];omega
   .go_wp2
    go_ret
    exact⟨rfl,x,hx0,hx1,0,rfl⟩
  .go_wp2
   go_ret
   exact⟨rfl,x,hx0,hx1,0,rfl⟩
open Go.RowKit in
def Ak5:Vo Tryz.prog 17:=by
 intro w v S xs hv _ hl;obtain⟨a,cap,rfl,hcap,hrow⟩:=hv;refine(Ae6 xs.length cap a w hl λi hlt=>?_).mono ?_
 .rcases hrow with h0|⟨gb,ob,row,e,fr,rfl,hs,hbk,hc⟩
  .omega
  .obtain⟨u,hu,hr⟩:=hc i hlt 0 (by decide);have e0:cell .u8 xs i 0=(enc .u8 xs[i]).getD 0 .nl:=GF (t:=.u8) (xs:=xs) (by simp[hlt]) 0;have hr:TR w S (fcC (cell .u8 xs i 0)) u:=hr;rw[e0] at hr;obtain⟨rfl,_⟩:=hr;refine⟨gb,ob,xs[i],rfl,?_⟩;have:ob+i*Ty.u8.width+0=ob+i:=by show ob+i*1+0=ob+i;omega
   rw[this] at hu;simp[World.cell?,hbk,hu]
 .rintro e w' ⟨h,q,rfl,h0,h1,rfl⟩;refine⟨w.heap.size,h,97,rfl,⟨rfl,rfl,⟨rfl,DrLe.add _ _⟩,?_⟩,λb hb=>?_,X_ _,?_,h0,h1⟩
  .simp[World.alloc,World.drewN]
  .simp[World.alloc,World.drewN,Array.getElem?_push,Nat.ne_of_lt hb]
  .simp[World.alloc,World.drewN]
theorem k17_96:Vo Tryz.prog 17 :=
 Ak5
def E97:=E96.N k17_96
def E98:=E97.X YL<|Ajw
def Alh {a n:Int} (h1:0<=a) (h3:0<n):0<=a.tmod n/\(a.tmod n<n\/a.tmod n=0):=⟨Int.tmod_nonneg n h1,.inl (Int.tmod_lt_of_pos a h3)⟩
def Am8 {a b c:Int} (ha:0<=a/\a<=255) (hb:0<=b/\b<=255) (hc:0<=c/\c<=255):IntKind.i64.wrap (IntKind.i64.wrap (IntKind.i64.wrap (a*65536)+IntKind.i64.wrap (b*256))+c)=a*65536+b*256+c:=by
 rw[FS (n:=a*65536) O O,FS (n:=b*256) O O,FS (n:=a*65536+b*256) O O,FS O O]
abbrev A7:Xct:=⟨[.u,.v (.el .int)],[.el .int],λ(x:aC)=>True,λ(x:aC) (y:D_)=>0<=y.1/\(y.1<x.2.1\/y.1=0)⟩
def E99:=E98.X A7<|Xct.o (KP [0,1,4,5,6,7] [9,11]) E98.2 func41 (by
 rintro⟨(c:PUnit),(n:Int),_⟩ hp;refine ho (.br (decide (n<=0)) (.lx A7 ((0:Int),())) (.br (decide (n<=256)) (.dr YL ((),()) λ(y3:D_)=>.ob (n≠(0:Int))<|.lx A7 (y3.1.tmod n,())) (.dr YL ((),()) λ(y5:D_)=>.dr YL ((),()) λ(y6:D_)=>.dr YL ((),()) λ(y7:D_)=>.ob (n≠(0:Int))<|.lx A7 ((wr (wr (wr (y5.1*(65536:Int))+wr (y6.1*(256:Int)))+y7.1)).tmod n,())))) ?_;refine Z (λh1=>lxY ?_) λh1=>Z (λh2=>Bk trivial λ(y3:D_) i3=>Ad ?_ λ_=>lxY ?_) λh2=>Bk trivial λ(y5:D_) i5=>Bk trivial λ(y6:D_) i6=>Bk trivial λ(y7:D_) i7=>Ad ?_ λ_=>lxY ?_;all_goals try simp only[std,Nat.reduceAdd] at *
 .simp
 .omega
 .exact Alh O O
 .omega
 .rw[Am8 i5 i6 i7];exact Alh O O)
abbrev Gi:Xct:=⟨[.u,.v (.el .int)],[.el .bool],λ(x:aC)=>True,λ(x:aC) (y:W_)=>True⟩
def An2:=E99.X Gi<|Xct.o [0,1,4] E99.2 func85 (by
 rintro⟨(c:PUnit),(n:Int),_⟩ hp;refine ho (.dr A7 ((),n,()) λ(y1:D_)=>.lx Gi (y1.1==0,())) ?_;refine Bk trivial λ(y1:D_) i1=>lxY ?_<;>(try simp only[std,Nat.reduceAdd] at *))
def Ae {J:Type} [Inhabited J] {l:List J} {i:Nat} (h:i<l.length):l.getD i default∈l:=by
 simp_all
abbrev Nu:Xct:=⟨[.u,.v (.sl .int)],[.el .int],λ(x:Unit×(List Int)×Unit)=>0<x.2.1.length/\x.2.1.length<=256,λ(x:Unit×(List Int)×Unit) (y:D_)=>y.1∈x.2.1⟩
def Ap4:=An2.X Nu<|Xct.o [0,1,4] An2.2 func45 (by
 rintro⟨(c:PUnit),(l:List Int),_⟩ hp;refine ho (.dr A7 ((),(↑(List.length l):Int),()) λ(y1:D_)=>.ob (0<=y1.1/\y1.1<(↑(List.length l):Int))<|.lx Nu (List.getD l y1.1.toNat default,())) ?_;refine Bk trivial λ(y1:D_) i1=>Ad ?_ λ_=>lxY ?_<;>(try simp only[std,Nat.reduceAdd] at *)<;>(first|trivial|omega|skip)<;>(refine Ae ?_;omega))
abbrev GR:Xct:=⟨[.u,.v (.sl .str)],[.el .str],λ(x:dB)=>0<x.2.1.length/\x.2.1.length<=256/\x.2.1.all (λs=>decide (s.size<=30))=true,λ(x:dB) (y:E_)=>y.1.size<=30/\(x.2.1.all (λs=>decide (s.size<=9))=true->y.1.size<=9)⟩
def Anz:=Ap4.X GR<|Xct.o [0,1,4] Ap4.2 func48 (by
 rintro⟨(c:PUnit),(l:List ByteArray),_⟩ hp;refine ho (.dr A7 ((),(↑(List.length l):Int),()) λ(y1:D_)=>.ob (0<=y1.1/\y1.1<(↑(List.length l):Int))<|.lx GR (List.getD l y1.1.toNat default,())) ?_;refine Bk trivial λ(y1:D_) i1=>Ad ?_ λ_=>lxY ?_<;>(try simp only[std,Nat.reduceAdd] at *)<;>(first|trivial|omega|skip)
 have hm:=Ae (i:=y1.fst.toNat) (l:=l) O;exact⟨by simpa using aM.1 hp.2.2 _ hm,λq=>by simpa using aM.1 q _ hm⟩)
abbrev AmI:Fct:=⟨[.v (.sl .u8)],[.el .bool],λ(x:ak)=>True,λ(x:ak)=>(decide (1048576<x.1.length),())⟩
def Anj:=Anz.a AmI<|Fct.o [0,2] Anz.2 func4 (λ⟨(l:List Int),_⟩ hp=>hg (.lf AmI (decide ((↑(List.length l):Int)>1048576),())) (an_ @sameSize.eq_1<|@aQ))
abbrev Uy:Xct:=⟨[.u],[.el .str],λ(x:S_)=>True,λ(x:S_) (y:E_)=>y.1.size<=30⟩
def Aof:=Anj.X Uy<|Xct.o [0,2] Anj.2 func96 (by
 rintro⟨(c:PUnit),_⟩ hp;refine ho (.dr GR ((),[(⟨#[104,111,109,101]⟩:ByteArray),(⟨#[99,100,110]⟩:ByteArray),(⟨#[101,118,105,108]⟩:ByteArray),(⟨#[104,111,109,101]⟩:ByteArray)],()) λ(y2:E_)=>.lx Uy (y2.1,())) ?_;refine BV ?_ λo1 (y2:E_) i2=>lxY ?_<;>(first|trivial|(refine⟨?_,?_,?_⟩<;>decide)|skip)<;>(try simp only[std,Nat.reduceAdd,sameSize,aQ] at *)<;>(try simp(disch:=omega) only[FS,C_] at *)<;>(try simp(disch:=omega) only[G_,F_])<;>(first|trivial|omega|grind[FS,C_,B_,K_,I_,maxLen,sameSize,ByteArray.size_append]))
def AoX:=Aof.X Uy<|Xct.o [0,2] Aof.2 func97 (by
 rintro⟨(c:PUnit),_⟩ hp;refine ho (.dr GR ((),[(⟨#[105,110,100,101,120]⟩:ByteArray),(⟨#[97,112,112]⟩:ByteArray),(⟨#[115,116,121,108,101]⟩:ByteArray),(⟨#[108,105,98]⟩:ByteArray),(⟨#[108,111,103,111]⟩:ByteArray),(⟨#[110,101,120,116]⟩:ByteArray),(⟨#[117,116,105,108]⟩:ByteArray)],()) λ(y2:E_)=>.lx Uy (y2.1,())) ?_;refine BV ?_ λo1 (y2:E_) i2=>lxY ?_<;>(first|trivial|(refine⟨?_,?_,?_⟩<;>decide)|skip)<;>(try simp only[std,Nat.reduceAdd,sameSize,aQ] at *)<;>(try simp(disch:=omega) only[FS,C_] at *)<;>(try simp(disch:=omega) only[G_,F_])<;>(first|trivial|omega|grind[FS,C_,B_,K_,I_,maxLen,sameSize,ByteArray.size_append]))
abbrev PY:Xct:=⟨[.u],[.el .addr],λ(x:S_)=>True,λ(x:S_) (y:aj)=>y.1.host.size<=30/\y.1.path.size<=30⟩
def Ap2:=AoX.X PY<|Xct.o [0,2,3] AoX.2 func47 (by
 rintro⟨(c:PUnit),_⟩ hp;refine ho (.dr Uy ((),()) λ(y1:E_)=>.dr Uy ((),()) λ(y2:E_)=>.lx PY (⟨y1.1,y2.1⟩,())) ?_;refine Bk trivial λ(y1:E_) i1=>Bk trivial λ(y2:E_) i2=>lxY ?_<;>(try simp only[std,Nat.reduceAdd,sameSize,aQ] at *)<;>(try simp(disch:=omega) only[FS,C_] at *)<;>(try simp(disch:=omega) only[G_,F_])<;>(first|trivial|omega|grind[FS,C_,B_,K_,I_,maxLen,sameSize,ByteArray.size_append]))
abbrev Xp:Xct:=⟨[.u,.v (.el .int)],[.el .str],λ(x:aC)=>0<=x.2.1/\x.2.1<=100,λ(x:aC) (y:E_)=>y.1.size<=31*x.2.1+31⟩
abbrev EG (c:Unit) (most:Int):LInv:=⟨[⟨.s,5,true,.el .str⟩,⟨.s,6,true,.el .int⟩],λ_ (x:aa)=>0<=x.2.1/\x.2.1<=most+1/\x.1.size+31*x.2.1<=31*most+31,λ(x:aa)=>x.2.1.toNat⟩
def Ap8:=Ap2.X Xp<|Xct.p (KP [0,1,4,5,6] [12,16]) (λ⟨c,most,_⟩=>lv [(3,EG c most)]) Ap2.2 func88 (by
 rintro⟨(c:PUnit),(most:Int),_⟩ hp;refine ho (let bX:=Value.int IntKind.i64 most;let bP:=(⟨#[97,100,100,32,98]⟩:ByteArray);let aO:=(⟨#[97,100,100,32,112]⟩:ByteArray);let aK:=(⟨#[59]⟩:ByteArray);let bQ:=(⟨#[108,111,111,107,32,98]⟩:ByteArray);let bD:=(⟨#[115,97,121,32,104,105]⟩:ByteArray);let aJ:=(⟨#[108,111,111,107,32,112]⟩:ByteArray);let ay:=(⟨#[99,111,117,110,116,32,112]⟩:ByteArray);let aq:=(⟨#[119,114,105,116,101,32,91,98,93]⟩:ByteArray);let Y_:=(⟨#[]⟩:ByteArray);let O_:=(⟨#[99,111,117,110,116,32,115,99,114,105,112,116]⟩:ByteArray);let L_:=(⟨#[119,114,105,116,101,32,91,112,93,120,91,47,112,93]⟩:ByteArray);let J_:=(⟨#[119,114,105,116,101,32,91,105,109,103,32,115,114,99,61,108,111,103,111,93]⟩:ByteArray);let H_:=(⟨#[119,114,105,116,101,32,91,108,105,110,107,32,104,114,101,102,61,115,116,121,108,101,93]⟩:ByteArray);.dr A7 ((),most,()) λ(y1:D_)=>lpx (EG c most) (Y_,(wr ((1:Int)+y1.1),())) λ(y2:aa) bk2=>.br (decide (y2.2.1>0)) (.br (!y2.1.toList==Y_.toList) (.ob (sameSize y2.1 aK)<|.dr GR ((),[bD,ay,O_,aJ,bQ,bP,aO,L_,J_,H_,aq],()) λ(y7:E_)=>.ob (sameSize (y2.1++aK) y7.1)<|.re bX<|.re (Value.string Y_)<|.bk (bk2 (y2.1++aK++y7.1,(wr (y2.2.1-(1:Int)),())))) (.dr GR ((),[bD,ay,O_,aJ,bQ,bP,aO,L_,J_,H_,aq],()) λ(y11:E_)=>.ob (sameSize y2.1 y11.1)<|.re bX<|.re (Value.string Y_)<|.bk (bk2 (y2.1++y11.1,(wr (y2.2.1-(1:Int)),()))))) (.lx Xp (y2.1,()))) ?_;refine Bk trivial λ(y1:D_) i1=>Ay ?_ λ(y2:aa) i2=>Z (λh3=>Z (λh4=>Ad ?_ λ_=>BV ?_ λo6 (y7:E_) i7=>Ad ?_ λ_=>Al<|Al<|AR ?_) λh4=>BV ?_ λo10 (y11:E_) i11=>Ad ?_ λ_=>Al<|Al<|AR ?_) (λh3=>lxY ?_)<;>(first|trivial|(refine⟨?_,?_,?_⟩<;>decide)|skip)<;>(try simp only[std,Nat.reduceAdd,sameSize,aQ] at *)<;>(try simp(disch:=omega) only[FS,C_] at *)<;>(try simp(disch:=omega) only[G_,F_])<;>(first|trivial|omega|grind[FS,C_,B_,K_,I_,maxLen,sameSize,ByteArray.size_append]))
abbrev Wa:Xct:=⟨[.u],[.el .str],λ(x:S_)=>True,λ(x:S_) (y:E_)=>y.1.size<=250⟩
abbrev EL (c:Unit):LInv:=⟨[⟨.s,3,true,.el .str⟩,⟨.s,4,true,.el .int⟩],λ_ (x:aa)=>0<=x.2.1/\x.2.1<=3/\x.1.size+70*x.2.1<=250,λ(x:aa)=>x.2.1.toNat⟩
def Anx:=Ap8.X Wa<|Xct.p (KP [0,2,3,4] [8]) (λ⟨c,_⟩=>lv [(3,EL c)]) Ap8.2 func205 (by
 rintro⟨(c:PUnit),_⟩ hp;refine ho (.dr A7 ((),(4:Int),()) λ(y1:D_)=>lpx (EL c) ((⟨#[]⟩:ByteArray),(y1.1,())) λ(y2:aa) bk2=>.br (decide (y2.2.1>0)) (.dr GR ((),[(⟨#[112]⟩:ByteArray),(⟨#[98]⟩:ByteArray),(⟨#[112,97,103,101]⟩:ByteArray),(⟨#[80]⟩:ByteArray),(⟨#[]⟩:ByteArray)],()) λ(y5:E_)=>.ob (sameSize y2.1 y5.1)<|.ob (sameSize (y2.1++y5.1) (⟨#[58]⟩:ByteArray))<|.dr GR ((),[(⟨#[49]⟩:ByteArray),(⟨#[55]⟩:ByteArray),(⟨#[57,57,57]⟩:ByteArray),(⟨#[49,48,48,48]⟩:ByteArray),(⟨#[48]⟩:ByteArray),(⟨#[120]⟩:ByteArray)],()) λ(y9:E_)=>.ob (sameSize (y2.1++y5.1++(⟨#[58]⟩:ByteArray)) y9.1)<|.ob (sameSize (y2.1++y5.1++(⟨#[58]⟩:ByteArray)++y9.1) (⟨#[59]⟩:ByteArray))<|.re (Value.string (⟨#[]⟩:ByteArray))<|.bk (bk2 (y2.1++y5.1++(⟨#[58]⟩:ByteArray)++y9.1++(⟨#[59]⟩:ByteArray),(wr (y2.2.1-(1:Int)),())))) (.lx Wa (y2.1,()))) ?_;refine Bk trivial λ(y1:D_) i1=>Ay ?_ λ(y2:aa) i2=>Z (λh3=>BV ?_ λo4 (y5:E_) i5=>Ad ?_ λ_=>Ad ?_ λ_=>BV ?_ λo8 (y9:E_) i9=>Ad ?_ λ_=>Ad ?_ λ_=>Al<|AR ?_) (λh3=>lxY ?_)<;>(first|trivial|(refine⟨?_,?_,?_⟩<;>decide)|skip)<;>(try simp only[std,Nat.reduceAdd,sameSize,aQ] at *)<;>(try simp(disch:=omega) only[FS,C_] at *)<;>(try simp(disch:=omega) only[G_,F_])<;>(first|trivial|omega|grind[FS,C_,B_,K_,I_,maxLen,sameSize,ByteArray.size_append]))
abbrev P0:Xct:=⟨[.u],[.el .str],λ(x:S_)=>True,λ(x:S_) (y:E_)=>y.1.size<=40⟩
def ApE:=Anx.X P0<|Xct.o (KP [0,2,4] [5,11,17,28,34,40]) Anx.2 func251 (by
 rintro⟨(c:PUnit),_⟩ hp;refine ho (let bQ:=(⟨#[98]⟩:ByteArray);let bD:=(⟨#[112]⟩:ByteArray);let aJ:=(⟨#[97,112,112]⟩:ByteArray);let ay:=(⟨#[112,97,103,101]⟩:ByteArray);let aq:=(⟨#[47]⟩:ByteArray);let Y_:=(⟨#[115,99,114,105,112,116]⟩:ByteArray);let O_:=(⟨#[105,109,103,32,115,114,99,61]⟩:ByteArray);let L_:=(⟨#[108,105,110,107,32,104,114,101,102,61]⟩:ByteArray);let J_:=(⟨#[32,107,105,110,100,61]⟩:ByteArray);let H_:=(⟨#[115,99,114,105,112,116,32,115,114,99,61]⟩:ByteArray);.dr A7 ((),(8:Int),()) λ(y1:D_)=>.br (y1.1==0) (.dr GR ((),[bD,bQ,Y_,ay],()) λ(y4:E_)=>.ob (sameSize aq y4.1)<|.lx P0 (aq++y4.1,())) (.br (y1.1==1) (.dr GR ((),[aJ,(⟨#[99,100,110,47,108,105,98]⟩:ByteArray),(⟨#[108,105,98]⟩:ByteArray),(⟨#[101,118,105,108,47,97,112,112]⟩:ByteArray)],()) λ(y8:E_)=>.ob (sameSize H_ y8.1)<|.lx P0 (H_++y8.1,())) (.br (y1.1==2) (.dr GR ((),[aJ,(⟨#[117,116,105,108]⟩:ByteArray)],()) λ(y12:E_)=>.ob (sameSize H_ y12.1)<|.ob (sameSize (H_++y12.1) J_)<|.dr GR ((),[(⟨#[100,101,102,101,114]⟩:ByteArray),(⟨#[109,111,100,117,108,101]⟩:ByteArray)],()) λ(y16:E_)=>.ob (sameSize (H_++y12.1++J_) y16.1)<|.lx P0 (H_++y12.1++J_++y16.1,())) (.br (y1.1==3) (.dr GR ((),[(⟨#[108,111,103,111]⟩:ByteArray),(⟨#[99,100,110,47,108,111,103,111]⟩:ByteArray)],()) λ(y20:E_)=>.ob (sameSize O_ y20.1)<|.lx P0 (O_++y20.1,())) (.br (y1.1==4) (.dr GR ((),[(⟨#[115,116,121,108,101]⟩:ByteArray),(⟨#[99,100,110,47,115,116,121,108,101]⟩:ByteArray)],()) λ(y24:E_)=>.ob (sameSize L_ y24.1)<|.lx P0 (L_++y24.1,())) (.br (y1.1==5) (.dr GR ((),[(⟨#[112,32,97,61,98]⟩:ByteArray),(⟨#[]⟩:ByteArray),(⟨#[80]⟩:ByteArray),(⟨#[112,32,97]⟩:ByteArray),(⟨#[112,32,97,61]⟩:ByteArray),(⟨#[112,32,32,97,61,98]⟩:ByteArray),(⟨#[112,32,97,61,98,32,97,61,99]⟩:ByteArray),(⟨#[112,32,97,61,98,32,98,61,99,32,99,61,100,32,100,61,101,32,101,61,102]⟩:ByteArray),aq,(⟨#[112,32,97,61,98,61,99]⟩:ByteArray)],()) λ(y28:E_)=>.lx P0 (y28.1,())) (.dr GR ((),[bD,bQ,ay,Y_],()) λ(y30:E_)=>.lx P0 (y30.1,())))))))) ?_;refine Bk trivial λ(y1:D_) i1=>Z (λh2=>BV ?_ λo3 (y4:E_) i4=>Ad ?_ λ_=>lxY ?_) (λh2=>Z (λh6=>BV ?_ λo7 (y8:E_) i8=>Ad ?_ λ_=>lxY ?_) λh6=>Z (λh10=>BV ?_ λo11 (y12:E_) i12=>Ad ?_ λ_=>Ad ?_ λ_=>BV ?_ λo15 (y16:E_) i16=>Ad ?_ λ_=>lxY ?_) λh10=>Z (λh18=>BV ?_ λo19 (y20:E_) i20=>Ad ?_ λ_=>lxY ?_) λh18=>Z (λh22=>BV ?_ λo23 (y24:E_) i24=>Ad ?_ λ_=>lxY ?_) λh22=>Z (λh26=>BV ?_ λo27 (y28:E_) i28=>lxY ?_) λh26=>BV ?_ λo29 (y30:E_) i30=>lxY ?_)<;>(first|trivial|(refine⟨?_,?_,?_⟩<;>decide)|skip)<;>(try have r8:=i8.2 (by decide))<;>(try have r12:=i12.2 (by decide))<;>(try have r16:=i16.2 (by decide))<;>(try simp only[std,Nat.reduceAdd,sameSize,aQ] at *)<;>(try simp(disch:=omega) only[FS,C_] at *)<;>(try simp(disch:=omega) only[G_,F_])<;>(first|trivial|omega|grind[FS,C_,B_,K_,I_,maxLen,sameSize,ByteArray.size_append]))
abbrev RX:Xct:=⟨[.u,.v (.el .int)],[.el .str],λ(x:aC)=>0<=x.2.1/\x.2.1<=1000,λ(x:aC) (y:E_)=>y.1.size<=42*x.2.1+40⟩
abbrev EE (c:Unit) (most:Int):LInv:=⟨[⟨.s,5,true,.el .str⟩,⟨.s,6,true,.el .int⟩],λ_ (x:aa)=>0<=x.2.1/\x.2.1<=most/\x.1.size+42*x.2.1<=42*most,λ(x:aa)=>x.2.1.toNat⟩
def Aoh:=ApE.X RX<|Xct.p (KP [0,1,4,5,6] [12,16,29]) (λ⟨c,most,_⟩=>lv [(3,EE c most)]) ApE.2 func206 (by
 rintro⟨(c:PUnit),(most:Int),_⟩ hp;refine ho (let O_:=(⟨#[62]⟩:ByteArray);let L_:=Value.int IntKind.i64 most;let J_:=(⟨#[]⟩:ByteArray);let H_:=(⟨#[60]⟩:ByteArray);.dr A7 ((),w1 most,()) λ(y1:D_)=>lpx (EE c most) (J_,(y1.1,())) λ(y2:aa) bk2=>.br (decide (y2.2.1>0)) (.dr Gi ((),(3:Int),()) λ(y4:W_)=>.br (y4.1) (.dr GR ((),[(⟨#[104,105]⟩:ByteArray),(⟨#[97,32,98]⟩:ByteArray),(⟨#[99,111,117,110,116]⟩:ByteArray),(⟨#[120,62,121]⟩:ByteArray),J_],()) λ(y7:E_)=>.ob (sameSize y2.1 y7.1)<|.re L_<|.re (Value.string J_)<|.bk (bk2 (y2.1++y7.1,(wr (y2.2.1-(1:Int)),())))) (.ob (sameSize y2.1 H_)<|.dr P0 ((),()) λ(y11:E_)=>.ob (sameSize (y2.1++H_) y11.1)<|.ob (sameSize (y2.1++H_++y11.1) O_)<|.re L_<|.re (Value.string J_)<|.bk (bk2 (y2.1++H_++y11.1++O_,(wr (y2.2.1-(1:Int)),()))))) (.dr Gi ((),(6:Int),()) λ(y15:W_)=>.br (y15.1) (.dr GR ((),[(⟨#[60,112]⟩:ByteArray),H_,(⟨#[101,110,100]⟩:ByteArray)],()) λ(y18:E_)=>.ob (sameSize y2.1 y18.1)<|.lx RX (y2.1++y18.1,())) (.lx RX (y2.1,())))) ?_;refine Bk trivial λ(y1:D_) i1=>Ay ?_ λ(y2:aa) i2=>Z (λh3=>Bk trivial λ(y4:W_) i4=>Z (λh5=>BV ?_ λo6 (y7:E_) i7=>Ad ?_ λ_=>Al<|Al<|AR ?_) λh5=>Ad ?_ λ_=>Bk trivial λ(y11:E_) i11=>Ad ?_ λ_=>Ad ?_ λ_=>Al<|Al<|AR ?_) (λh3=>Bk trivial λ(y15:W_) i15=>Z (λh16=>BV ?_ λo17 (y18:E_) i18=>Ad ?_ λ_=>lxY ?_) λh16=>lxY ?_)<;>(first|trivial|(refine⟨?_,?_,?_⟩<;>decide)|skip)<;>(try simp only[std,Nat.reduceAdd,sameSize,aQ] at *)<;>(try simp(disch:=omega) only[FS,C_] at *)<;>(try simp(disch:=omega) only[G_,F_])<;>(first|trivial|omega|grind[FS,C_,B_,K_,I_,maxLen,sameSize,ByteArray.size_append]))
abbrev HX:Xct:=⟨[.u,.v (.el .int)],[.el .str],λ(x:aC)=>True,λ(x:aC) (y:E_)=>y.1.size<=400⟩
def Apk:=Aoh.X HX<|Xct.o (KP [0,1,4,5] [6,10,14,23]) Aoh.2 func143 (by
 rintro⟨(c:PUnit),(k:Int),_⟩ hp;refine ho (.br (k==2) (.dr Xp ((),(3:Int),()) λ(y3:E_)=>.lx HX (y3.1,())) (.br (k==3) (.dr Wa ((),()) λ(y5:E_)=>.lx HX (y5.1,())) (.br (k==5) (.dr GR ((),[(⟨#[]⟩:ByteArray),(⟨#[105,109,112,111,114,116,32,117,116,105,108,59]⟩:ByteArray),(⟨#[105,109,112,111,114,116,32,108,105,98,59]⟩:ByteArray),(⟨#[105,109,112,111,114,116,32,99,100,110,47,108,105,98,59]⟩:ByteArray),(⟨#[105,109,112,111,114,116,32,97,112,112,59,105,109,112,111,114,116,32,117,116,105,108,59]⟩:ByteArray)],()) λ(y8:E_)=>.dr GR ((),[(⟨#[115,97,121,32,109]⟩:ByteArray),(⟨#[99,111,117,110,116,32,112]⟩:ByteArray),(⟨#[97,100,100,32,98]⟩:ByteArray),(⟨#[108,111,111,107,32,112]⟩:ByteArray)],()) λ(y10:E_)=>.ob (sameSize y8.1 y10.1)<|.lx HX (y8.1++y10.1,())) (.br (k==4) (.lx HX ((⟨#[112,105,120,101,108,115]⟩:ByteArray),())) (.dr RX ((),(8:Int),()) λ(y14:E_)=>.lx HX (y14.1,())))))) ?_;refine Z (λh1=>BV ?_ λo2 (y3:E_) i3=>lxY ?_) λh1=>Z (λh4=>Bk trivial λ(y5:E_) i5=>lxY ?_) λh4=>Z (λh6=>BV ?_ λo7 (y8:E_) i8=>BV ?_ λo9 (y10:E_) i10=>Ad ?_ λ_=>lxY ?_) λh6=>Z (λh12=>lxY ?_) λh12=>BV ?_ λo13 (y14:E_) i14=>lxY ?_;all_goals first|trivial|(refine⟨?_,?_,?_⟩<;>decide)|skip
 all_goals (try simp only[std,Nat.reduceAdd,sameSize,aQ] at *)<;>(try simp(disch:=omega) only[FS,C_] at *)<;>(try simp(disch:=omega) only[G_,F_])<;>(first|trivial|omega|grind[FS,C_,B_,K_,I_,maxLen,sameSize,ByteArray.size_append]))
def Bb {s:ByteArray} (h:isName s=true):s.size<=8:=by
 simp only[isName,T_,az] at h;omega
def words9:ByteArray->List ByteArray->ByteArray
 | w,[]=>w
 | w,x::l=>words9 (w++⟨#[32]⟩++x) l
theorem dJ {w:ByteArray} {l:List ByteArray} {i:Nat} (h:i<l.length):words9 w (l.drop i)=words9 (w++⟨#[32]⟩++l.getD i default) (l.drop (i+1)):=by rw[B_ h];rfl
theorem dp {w:ByteArray} {l:List ByteArray} {i:Nat} (h:l.length<=i):words9 w (l.drop i)=w:=by rw[cx h];rfl
def Hy:∀ (l:List ByteArray) (w:ByteArray),l.all isName=true->(words9 w l).size<=w.size+9*l.length:=by
 intro l
 induction l with
 | nil=>intro w _;simp[words9]
 | cons x l ih=>
  intro w h;simp only[List.all_cons,T_] at h;have h1:=Bb h.1;have h2:=ih (w++⟨#[32]⟩++x) h.2;simp only[words9,aw];rw[aQ,aQ,show ByteArray.size ⟨#[32]⟩=1 from rfl] at h2;omega
abbrev Nx:Fct:=⟨[.v (.el .str),.v (.sl .str)],[.el .str],λ(x:ga)=>x.1.size<=100/\x.2.1.length<=4/\x.2.1.all isName=true,λ(x:ga)=>(words9 x.1 x.2.1,())⟩
abbrev DY (w:ByteArray) (l:(List ByteArray)):LInv:=⟨[⟨.s,0,true,.el .str⟩,⟨.s,5,true,.el .int⟩],λ_ (x:aa)=>0<=x.2.1/\x.2.1<=l.length/\x.1.size<=100+9*x.2.1/\words9 x.1 (l.drop x.2.1.toNat)=words9 w l,λ(x:aa)=>l.length-x.2.1.toNat⟩
def Apm:=Apk.a Nx<|Fct.p (KP [0,1,4,5] [9]) (λ⟨w,l,_⟩=>lv [(2,DY w l)]) Apk.2 func90 (by
 rintro⟨(w:ByteArray),(l:List ByteArray),_⟩ hp;refine ho (lpx (DY w l) (w,((0:Int),())) λ(y1:aa) bk1=>.br (decide (y1.2.1<(l.length:Int))) (.ob (sameSize y1.1 (⟨#[32]⟩:ByteArray))<|.ob (inB y1.2.1 l.length)<|.ob (sameSize (y1.1++(⟨#[32]⟩:ByteArray)) (l.getD y1.2.1.toNat default))<|.re (l)<|.re (Value.string (⟨#[]⟩:ByteArray))<|.bk (bk1 (y1.1++(⟨#[32]⟩:ByteArray)++l.getD y1.2.1.toNat default,(w1 y1.2.1,())))) (.lf Nx (y1.1,()))) ?_;refine Ay ?_ λ(y1:aa) i1=>Z (λh2=>Ad ?_ λ_=>Ad ?_ λ_=>Ad ?_ λ_=>Al<|Al<|AR ?_) (λh2=>Y ?_)<;>have hg:∀ i,i<l.length->(l.getD i default).size<=8:=λi h=>Bb (aM.1 hp.2.2 _ (Ae h))<;>(try simp only[std,Nat.reduceAdd,dJ,dp,sameSize,aQ] at *)<;>(try simp(disch:=omega) only[FS,C_] at *)<;>(try simp(disch:=omega) only[G_,F_])<;>(first|trivial|omega|grind[FS,C_,I_,maxLen,dJ,dp,sameSize,ByteArray.size_append]))
def formatP (p:aA):ByteArray:=if isPolicy p&&p.set_ then(if p.nonce=⟨#[]⟩ then words9 ⟨#[115,99,114,105,112,116]⟩ p.bt++⟨#[59]⟩++words9 ⟨#[115,116,121,108,101]⟩ p.styles++⟨#[59]⟩++words9 ⟨#[105,109,103]⟩ p.images else words9 ⟨#[115,99,114,105,112,116]⟩ p.bt++⟨#[59]⟩++words9 ⟨#[115,116,121,108,101]⟩ p.styles++⟨#[59]⟩++words9 ⟨#[105,109,103]⟩ p.images++⟨#[59,110,111,110,99,101,32]⟩++p.nonce) else⟨#[]⟩
def Ea {p:aA} (h:isPolicy p=true) (hs:p.set_=true):p.bt.all isName=true/\p.bt.length<=4/\p.styles.all isName=true/\p.styles.length<=4/\p.images.all isName=true/\p.images.length<=4/\p.nonce.size<=20:=by
 simp only[isPolicy,hs,aD,T_,dt,az] at h;obtain⟨⟨⟨⟨a1,a2⟩,a3,a4⟩,a5,a6⟩,a7⟩:=h;refine⟨a1,a2,a3,a4,a5,a6,?_⟩;rcases a7 with h|h
 .rw[h];exact Nat.zero_le _
 .simp only[isValue,T_,az] at h;omega
def Ef {l:List ByteArray} {w:ByteArray} (h:l.all isName=true) (hl:l.length<=4) (hw:w.size<=6):(words9 w l).size<=42:=by
 have:=Hy l w h;omega
def Cg (p:aA):(formatP p).size<=200:=by
 unfold formatP;split
 .rename_i h;simp only[T_] at h;obtain⟨a1,a2,a3,a4,a5,a6,a7⟩:=Ea h.1 h.2;have b1:=Ef (w:=⟨#[115,99,114,105,112,116]⟩) a1 a2 (by decide);have b2:=Ef (w:=⟨#[115,116,121,108,101]⟩) a3 a4 (by decide);have b3:=Ef (w:=⟨#[105,109,103]⟩) a5 a6 (by decide);split
  .simp only[aQ,show ByteArray.size ⟨#[59]⟩=1 from rfl];omega
  .simp only[aQ,show ByteArray.size ⟨#[59]⟩=1 from rfl,show ByteArray.size ⟨#[59,110,111,110,99,101,32]⟩=7 from rfl];omega
 .exact Nat.zero_le _
abbrev Ax:Fct:=⟨[.v (.el .bm)],[.el .str],λ(x:bw)=>AG x.1<=1099511627776,λ(x:bw)=>(formatP x.1,())⟩
def AoQ:=Apm.a Ax<|Fct.o (KP [1,2,3] [11,27]) Apm.2 func43 (by
 rintro⟨(p:aA),_⟩ hp;refine ho (let O_:=(⟨#[]⟩:ByteArray);let L_:Out:=.lf Ax (O_,());let J_:=(⟨#[59,110,111,110,99,101,32]⟩:ByteArray);let H_:=(⟨#[59]⟩:ByteArray);.cl BN (p,()) λz2=>.br (!z2.1) L_ (.br (!p.set_) L_ (.cl Nx ((⟨#[115,99,114,105,112,116]⟩:ByteArray),p.bt,()) λz3=>.ob (sameSize z3.1 H_)<|.cl Nx ((⟨#[115,116,121,108,101]⟩:ByteArray),p.styles,()) λz4=>.ob (sameSize (z3.1++H_) z4.1)<|.ob (sameSize (z3.1++H_++z4.1) H_)<|.cl Nx ((⟨#[105,109,103]⟩:ByteArray),p.images,()) λz5=>.ob (sameSize (z3.1++H_++z4.1++H_) z5.1)<|.br (!p.nonce.toList==O_.toList) (.ob (sameSize (z3.1++H_++z4.1++H_++z5.1) J_)<|.ob (sameSize (z3.1++H_++z4.1++H_++z5.1++J_) p.nonce)<|.lf Ax (z3.1++H_++z4.1++H_++z5.1++J_++p.nonce,())) (.lf Ax (z3.1++H_++z4.1++H_++z5.1,()))))) ?_;repeat' (guard_target =~ Out.holds _ _;first|refine Y ?_|refine Z (λ_=>?_) λ_=>?_|refine Ai ?_ λ_=>?_|refine Ad ?_ λ_=>?_)
 all_goals (try simp only[std,Nat.reduceAdd] at *)<;>(first|trivial|omega|skip)<;>(try have hA:isPolicy p=true:=‹_›;have hB:p.set_=true:=‹_›;obtain⟨a1,a2,a3,a4,a5,a6,a7⟩:=Ea hA hB)<;>(try have b1:=Ef (w:=⟨#[115,99,114,105,112,116]⟩) a1 a2 (by decide))<;>(try have b2:=Ef (w:=⟨#[115,116,121,108,101]⟩) a3 a4 (by decide))<;>(try have b3:=Ef (w:=⟨#[105,109,103]⟩) a5 a6 (by decide))<;>(try simp only[std,Nat.reduceAdd,formatP,sameSize,aQ] at *)<;>(try simp(disch:=omega) only[FS,C_] at *)<;>(try simp(disch:=omega) only[G_,F_])<;>(first|trivial|omega|grind[FS,C_,B_,K_,I_,maxLen,formatP,sameSize,ByteArray.size_append]))
def hosts9:List ByteArray:=[⟨#[104,111,109,101]⟩,⟨#[99,100,110]⟩,⟨#[101,118,105,108]⟩]
def VX {i:Nat} (h:i<3):isName (hosts9.getD i default)=true:=by
 match i,h with
 | 0,_=>decide
 | 1,_=>decide
 | 2,_=>decide
abbrev M2:Xct:=⟨[.u],[.sl .str],λ(x:S_)=>True,λ(x:S_) (y:bS)=>y.1.length<=3/\y.1.all isName=true⟩
abbrev D0 (c:Unit):LInv:=⟨[⟨.s,3,true,.sl .str⟩,⟨.s,9,true,.el .int⟩,⟨.s,7,true,.sl .str⟩],λ_ (x:eS)=>0<=x.2.1/\x.2.1<=3/\x.1.length<=x.2.1/\x.1.all isName=true/\x.2.2.1=hosts9,λ(x:eS)=>3-x.2.1.toNat⟩
def Ap5:=AoQ.X M2<|Xct.p (KP [0,2,3,5,7,8,9] [10,14]) (λ⟨c,_⟩=>lv [(3,D0 c)]) AoQ.2 func91 (by
 rintro⟨(c:PUnit),_⟩ hp;refine ho (lpx (D0 c) ([],((0:Int),([(⟨#[104,111,109,101]⟩:ByteArray),(⟨#[99,100,110]⟩:ByteArray),(⟨#[101,118,105,108]⟩:ByteArray)],()))) λ(y1:eS) bk1=>.br (decide (y1.2.1<3)) (.ix y1.2.1 y1.2.2.1.length<|.dr Gi ((),(2:Int),()) λ(y5:W_)=>.br (y5.1) (.ap (y1.1.length+[y1.2.2.1.getD y1.2.1.toNat default].length) 16<|.re (Value.int IntKind.i64 (3:Int))<|.bk (bk1 (y1.1++[y1.2.2.1.getD y1.2.1.toNat default],(w1 y1.2.1,(y1.2.2.1,()))))) (.re (Value.int IntKind.i64 (3:Int))<|.bk (bk1 (y1.1,(w1 y1.2.1,(y1.2.2.1,())))))) (.lx M2 (y1.1,()))) ?_;refine Ay ?_ λ(y1:eS) i1=>Z (λh2=>Ey ?_ λo3 o4=>Bk trivial λ(y5:W_) i5=>Z (λh6=>FB ?_ λ_=>Al<|AR ?_) λh6=>Al<|AR ?_) (λh2=>lxY ?_)<;>(have h9:hosts9.length=3:=rfl;have hn:∀ i,i<3->isName (hosts9.getD i default)=true:=λi h=>VX h)<;>(try exact⟨O,O,by simp,rfl,rfl⟩)<;>(try obtain⟨a1,a2,a3,a4,a5⟩:=i1;simp only[a5] at *)<;>(try simp only[std,Nat.reduceAdd] at *)<;>(try simp(disch:=omega) only[FS,C_] at *)<;>(try simp(disch:=omega) only[G_,F_])<;>(first|trivial|omega|grind[FS,C_,B_,K_,I_,maxLen]))
abbrev FG:Xct:=⟨[.u],[.el .bm],λ(x:S_)=>True,λ(x:S_) (y:bw)=>isPolicy y.1=true⟩
def AoH:=Ap5.X FG<|Xct.o (KP [0,2,3] [5,15]) Ap5.2 func44 (by
 rintro⟨(c:PUnit),_⟩ hp;refine ho (.dr Gi ((),(2:Int),()) λ(y1:W_)=>.br (y1.1) (.leaf (.one true [vb (false),.nl,.nl,.nl,vs ((⟨#[]⟩:ByteArray))]) [] []) (.dr M2 ((),()) λ(y3:bS)=>.dr M2 ((),()) λ(y4:bS)=>.dr M2 ((),()) λ(y5:bS)=>.dr Gi ((),(2:Int),()) λ(y6:W_)=>.br (y6.1) (.lx FG (⟨true,y3.1,y4.1,y5.1,(⟨#[110,55]⟩:ByteArray)⟩,())) (.lx FG (⟨true,y3.1,y4.1,y5.1,(⟨#[]⟩:ByteArray)⟩,())))) ?_;refine Bk trivial λ(y1:W_) i1=>Z (λh2=>Xct.leafZ (S:=FG) (default,()) (by repeat' first|exact rfl|exact trivial|refine And.intro ?_ ?_) ?_) (λh2=>Bk trivial λ(y3:bS) i3=>Bk trivial λ(y4:bS) i4=>Bk trivial λ(y5:bS) i5=>Bk trivial λ(y6:W_) i6=>Z (λh7=>lxY ?_) λh7=>lxY ?_)<;>(try simp only[std,Nat.reduceAdd] at *)<;>(first|rfl|(simp only[isPolicy,T_,aD,az,dt];first|exact⟨⟨⟨⟨i3.2,O⟩,i4.2,O⟩,i5.2,O⟩,.inl trivial⟩|exact⟨⟨⟨⟨i3.2,O⟩,i4.2,O⟩,i5.2,O⟩,.inl rfl⟩|exact⟨⟨⟨⟨i3.2,O⟩,i4.2,O⟩,i5.2,O⟩,.inr (by decide)⟩)))
def Ag3 {J:Type} {f:J->Nat} {B:Nat}:∀ {l:List J},(∀ x∈l,f x<=B)->U f l<=(B+1)*l.length:=by
 intro l
 induction l with
 | nil=>intro _;simp[U]
 | cons x l ih=>
  intro h;have h1:=ih λy hy=>h y (cY _ hy)
  have h2:=h x dx;have h3:U f (x::l)=f x+1+U f l:=by simp only[U,aY,List.sum_cons,aw];omega
  rw[h3,aw,Nat.mul_add];omega
def Rs {l:List ByteArray} (h:l.all isName=true):U Ag l<=9*l.length:=Ag3 (B:=8) λx hx=>Bb (aM.1 h x hx)
def Gg {p:aA} (h:isPolicy p=true):AG p<=128:=by
 cases hs:p.set_ with
 | true=>
  obtain⟨a1,a2,a3,a4,a5,a6,a7⟩:=Ea h hs;have b1:=Rs a1;have b2:=Rs a3;have b3:=Rs a5;simp only[AG];omega
 | false=>
  simp only[isPolicy,hs,cD,aS,az] at h;obtain⟨h1,h2,h3,h4⟩:=h;rw[List.length_eq_zero_iff] at h1 h2 h3;simp only[AG,h1,h2,h3,h4];decide
abbrev HK:Xct:=⟨[.u,.v (.el .int)],[.el .bd],λ(x:aC)=>True,λ(x:aC) (y:ar)=>y.1.body.size<=400/\y.1.bm.size<=200⟩
def Apu:=AoH.X HK<|Xct.o (KP [0,1,4,5] [17]) AoH.2 func86 (by
 rintro⟨(c:PUnit),(k:Int),_⟩ hp;refine ho (.dr HX ((),k,()) λ(y1:E_)=>.dr Nu ((),[(0:Int),(5:Int),(50:Int)],()) λ(y3:D_)=>.dr Gi ((),(2:Int),()) λ(y4:W_)=>.br (k==1) (.dr FG ((),()) λ(y6:bw)=>.cl Ax (y6.1,()) λz2=>.lx HK (⟨(200:Int),k,y1.1,y3.1,y4.1,z2.1⟩,())) (.lx HK (⟨(200:Int),k,y1.1,y3.1,y4.1,(⟨#[]⟩:ByteArray)⟩,()))) ?_;refine Bk trivial λ(y1:E_) i1=>BV ?_ λo2 (y3:D_) i3=>Bk trivial λ(y4:W_) i4=>Z (λh5=>Bk trivial λ(y6:bw) i6=>Cs ?_ λo7 z2 ez2=>lxY ?_) (λh5=>lxY ?_)<;>(try subst_vars)<;>(try have q:=Gg i6)<;>(try have q2:=Cg y6.1)<;>(try simp only[std,Nat.reduceAdd] at *)<;>(first|omega|decide|exact⟨i1,q2⟩|exact⟨i1,by decide⟩))
abbrev Kg:Xct:=⟨[.u],[.el .bd],λ(x:S_)=>True,λ(x:S_) (y:ar)=>y.1.body.size<=2000/\y.1.bm.size<=200⟩
abbrev EB (c:Unit):LInv:=⟨[⟨.b,3,true,.el .bd⟩,⟨.b,2,true,.el .bd⟩],λ(z x:eT)=>(x.1.body.size<=2000/\x.1.bm.size<=200)/\x.2.1=z.2.1,λ(x:eT)=>400-x.1.body.size⟩
def AnU:=Apu.X Kg<|Xct.p (KP [0,2,3,10] [11,17,23,29,35,40]) (λ⟨c,_⟩=>lv [(12,EB c)]) Apu.2 func260 (by
 rintro⟨(c:PUnit),_⟩ hp;refine ho (let H_:=(⟨#[48,49,50,51,52,53,54,55,56,57]⟩:ByteArray);.dr A7 ((),(5:Int),()) λ(y1:D_)=>.dr HK ((),wr ((1:Int)+y1.1),()) λ(y2:ar)=>.dr A7 ((),(12:Int),()) λ(y3:D_)=>.br (y3.1==0) (.dr Nu ((),[(99:Int),(100:Int),(404:Int),(599:Int),(600:Int)],()) λ(y6:D_)=>.lx Kg ({y2.1 with status:=y6.1},())) (.br (y3.1==1) (.dr Nu ((),[(0:Int),(6:Int)],()) λ(y9:D_)=>.lx Kg ({y2.1 with kind:=y9.1},())) (.br (y3.1==2) (.dr Nu ((),[(-1:Int),(1000:Int),(1001:Int)],()) λ(y12:D_)=>.lx Kg ({y2.1 with age:=y12.1},())) (.br (y3.1==3) (.dr GR ((),[(⟨#[120]⟩:ByteArray),(⟨#[115,99,114,105,112,116,59,115,116,121,108,101,59,105,109,103]⟩:ByteArray)],()) λ(y15:E_)=>.lx Kg ({y2.1 with bm:=y15.1},())) (.br (y3.1==4) (lpx (EB c) (y2.1,(default,())) λ(y17:eT) bk17=>.br (decide ((y17.1.body.size:Int)<400)) (.ob (sameSize y17.1.body H_)<|.re (Value.int IntKind.i64 y3.1)<|.bk (bk17 (({y17.1 with body:=y17.1.body++H_}:M_),(y17.2.1,())))) (.lx Kg (y17.1,()))) (.lx Kg (y2.1,()))))))) ?_;refine Bk trivial λ(y1:D_) i1=>Bk trivial λ(y2:ar) i2=>Bk trivial λ(y3:D_) i3=>Z (λh4=>BV ?_ λo5 (y6:D_) i6=>lxY ?_) (λh4=>Z (λh7=>BV ?_ λo8 (y9:D_) i9=>lxY ?_) λh7=>Z (λh10=>BV ?_ λo11 (y12:D_) i12=>lxY ?_) λh10=>Z (λh13=>BV ?_ λo14 (y15:E_) i15=>lxY ?_) λh13=>Z (λh16=>Ay ?_ λ(y17:eT) i17=>Z (λh18=>Ad ?_ λ_=>Al<|AR ?_) λh18=>lxY ?_) λh16=>lxY ?_)<;>(try simp only[std,Nat.reduceAdd] at *)<;>(first|omega|decide|exact i2|skip)<;>(try simp only[std,Nat.reduceAdd,sameSize,aQ] at *)<;>(try simp(disch:=omega) only[FS,C_] at *)<;>(try simp(disch:=omega) only[G_,F_])<;>(first|trivial|omega|grind[FS,C_,B_,K_,I_,maxLen,sameSize,ByteArray.size_append]))
def findGuess (l:List bv) (a:HO):Int:=fidx (λg=>decide (g.to=a)) l 0
abbrev FZ:Fct:=⟨[.v (.sl .guess),.v (.el .addr)],[.el .int],λ(x:eU)=>x.1.length<=4194304,λ(x:eU)=>(findGuess x.1 x.2.1,())⟩
abbrev BD (l:(List bv)) (a:HO):LInv:=⟨[⟨.s,5,true,.el .int⟩,⟨.b,3,true,.el .addr⟩],λ(z x:eh)=>(0<=x.1/\x.1<=l.length/\fidx (λg=>decide (g.to=a)) (l.drop x.1.toNat) x.1=findGuess l a)/\x.2.1=z.2.1,λ(x:eh)=>l.length-x.1.toNat⟩
def Aot:=AnU.a FZ<|Fct.p (KP [0,3,4,5] [9,18]) (λ⟨l,a,_⟩=>lv [(2,BD l a)]) AnU.2 func185 (λ⟨(l:List bv),(a:HO),_⟩ hp=>hg (.lq (Int×HO×PUnit) (BD l a).inv (BD l a).m ((0:Int),(a,())) λy1 bk1=>.br (decide (y1.1<(l.length:Int))) (.ob (inB y1.1 l.length)<|.br ((l.getD y1.1.toNat default).to.host==y1.2.1.host&&((l.getD y1.1.toNat default).to.path==y1.2.1.path&&true)) (.lf FZ (y1.1,())) (.re (l)<|.bk (bk1 (w1 y1.1,(y1.2.1,()))))) (.lf FZ ((-1:Int),()))) (an_ @findGuess.eq_1<|an_ @fidx.eq_1<|@fidx.eq_2))
abbrev AhB:Fct:=⟨[.v (.sl .guess)],[.sl .guess],λ(x:eI)=>x.1.length<=4194304,λ(x:eI)=>(x.1,())⟩
def addGuess (l:List bv) (a:HO) (x:M_):List bv×Bool:=if 0<=findGuess l a\/6<=countIf (λg=>!g.used) l then(l,false) else(l++[⟨a,x,false⟩],true)
abbrev Iy:Fct:=⟨[.v (.sl .guess),.v (.el .addr),.v (.el .bd)],[.sl .guess,.el .bool],λ(x:gf)=>x.1.length<=4194304,λ(x:gf)=>((addGuess x.1 x.2.1 x.2.2.1).1,(addGuess x.1 x.2.1 x.2.2.1).2,())⟩
def AoU:=Aot.a Iy<|Fct.o (KP [0,4,5,6,7,8] [20]) Aot.2 func234 (λ⟨(l:List bv),(a:HO),(x:M_),_⟩ hp=>hg (.ap (0+List.length l) 104<|.cl FZ (l,a,()) λ(z2:D_)=>.br (decide (z2.1>=0)) (.lf Iy ([]++l,false,())) (.cl PM (l,()) λ(z3:D_)=>.br (decide (z3.1>=6)) (.lf Iy ([]++l,false,())) (.ap (([]++l).length+[(⟨a,x,false⟩:bv)].length) 104<|.lf Iy ([]++l++[(⟨a,x,false⟩:bv)],true,())))) (@addGuess.eq_1))
def useGuess (l:List bv) (a:HO):List bv×M_×Bool:=if findGuess l a<0 then(l,notF,false) else(l.modify (findGuess l a).toNat λg=>{ g with used:=true },(l.getD (findGuess l a).toNat default).bd,true)
abbrev JX:Fct:=⟨[.v (.sl .guess),.v (.el .addr)],[.sl .guess,.el .bd,.el .bool],λ(x:eU)=>x.1.length<=4194304,λ(x:eU)=>((useGuess x.1 x.2.1).1,(useGuess x.1 x.2.1).2.1,(useGuess x.1 x.2.1).2.2,())⟩
def Aoz:=AoU.a JX<|Fct.o (KP [0,3,4,5,6,7,8] [16]) AoU.2 func180 (λ⟨(l:List bv),(a:HO),_⟩ hp=>hg (.ap (0+List.length l) 104<|.cl FZ (l,a,()) λ(z2:D_)=>.br (decide (z2.1<0)) (.cl C2 () λz3=>.lf JX ([]++l,z3.1,false,())) (.ix z2.1 (([]++l).length)<|.lt (List bv) (([]++l).modify z2.1.toNat λz=>(⟨z.to,z.bd,true⟩:bv)) λz4=>.ob (0<=z2.1/\z2.1<(↑(List.length l):Int))<|.lf JX (z4,(List.getD l z2.1.toNat default).bd,true,()))) (an_ @useGuess.eq_1<|an_ @findGuess.eq_1<|(BU (λg:bv=>decide (g.to=a)) l 0 O)))
def Ai4 {b:List Int} (h:Sh.good (.sl .u8) b):∀ j,j<b.length->0<=b.getD j default/\b.getD j default<=255:=by
 intro j hj;have h1:=(Aa7 (t:=.u8) h hj) (.val (.int .u8 (b.getD j default))) (by simp[Sh.fc,enc]);simp only[JH,Lit.wf,T_,az] at h1;exact h1
def Ak9 {J:Type} (f:J->Nat) (l:List J):U f l=(l.map λx=>f x+1).sum:=by
 induction l with
 | nil=>rfl
 | cons x l ih=>
  have h3:U f (x::l)=f x+1+U f l:=by simp only[U,aY,List.sum_cons,aw];omega
  simp_all
def PH (b:UInt8) (s:ByteArray):U Ag (K b s)=s.size+1:=by
 rw[Ak9,<-AU,<-Xm b (I s)];unfold K;rw[dz];congr 1
abbrev DQ:Fct:=⟨[.v (.el .str),.v (.el .u8)],[.sl .str],λ(x:aa)=>x.1.size<=1099511627776/\0<=x.2.1/\x.2.1<=255,λ(x:aa)=>(K (UInt8.ofNat x.2.1.toNat) x.1,())⟩
def Qf {s:ByteArray} {i:Nat} {b:Int} (h0:0<=b) (h1:b<=255):((s.data.getD i 0).toNat:Int)=b↔s.data.getD i 0=UInt8.ofNat b.toNat:=by
 constructor
 .intro h;apply UInt8.toNat_inj.1;rw[UInt8.toNat_ofNat'];omega
 .intro h;rw[h,UInt8.toNat_ofNat'];omega
abbrev D7 (s:ByteArray) (b:Int):LInv:=⟨[⟨.s,5,true,.sl .str⟩,⟨.s,6,true,.el .int⟩,⟨.s,7,true,.el .int⟩],λ_ (x:dF)=>0<=x.2.2.1/\x.2.2.1<=s.size+1/\0<=x.2.1/\x.2.1<=x.2.2.1/\x.1.length<=x.2.2.1/\x.1++Lp (UInt8.ofNat b.toNat) s x.2.1.toNat x.2.2.1.toNat=K (UInt8.ofNat b.toNat) s,λ(x:dF)=>(s.size+1-x.2.2.1).toNat⟩
def AnD:=Aoz.a DQ<|Fct.p (KP [0,1,4,5,6,7] [12,25]) (λ⟨s,b,_⟩=>lv [(4,D7 s b)]) Aoz.2 func105 (by
 rintro⟨(s:ByteArray),(b:Int),_⟩ hp;refine ho (let L_:=Value.int IntKind.u8 b;let J_:=(s.size:Int);lpx (D7 s b) ([],((0:Int),((0:Int),()))) λ(y1:dF) bk1=>let H_:Out:=.ob (0<=y1.2.1/\y1.2.1<=y1.2.2.1/\y1.2.2.1<=J_)<|.ap (y1.1.length+[s.extract y1.2.1.toNat y1.2.2.1.toNat].length) 16<|.re (Value.string s)<|.re L_<|.bk (bk1 (y1.1++[s.extract y1.2.1.toNat y1.2.2.1.toNat],(w1 y1.2.2.1,(w1 y1.2.2.1,()))));.br (decide (y1.2.2.1<=J_)) (.br (y1.2.2.1==J_) H_ (.ob (0<=y1.2.2.1/\y1.2.2.1<J_)<|.br ((↑(s.data.getD y1.2.2.1.toNat 0).toNat:Int)==b) H_ (.re (Value.string s)<|.re L_<|.bk (bk1 (y1.1,(y1.2.1,(w1 y1.2.2.1,()))))))) (.lf DQ (y1.1,()))) ?_;refine Ay ?_ λ(y1:dF) i1=>Z (λh2=>Z (λh3=>Ad ?_ λ_=>FB ?_ λ_=>Al<|Al<|AR ?_) λh3=>Ad ?_ λ_=>Z (λh8=>Ad ?_ λ_=>FB ?_ λ_=>Al<|Al<|AR ?_) λh8=>Al<|Al<|AR ?_) (λh2=>Y ?_)<;>obtain⟨hp1,hp2,hp3⟩:=hp<;>(try obtain⟨a1,a2,a3,a4,a5,a6⟩:=i1)<;>(try obtain⟨a1,a2,a3,a4,a5,a6⟩:=i2)<;>(try obtain⟨a1,a2,a3,a4,a5,a6⟩:=i3)<;>(try simp only[std,Nat.reduceAdd,al,aw,bz,Qf hp2 hp3] at *)<;>(try simp(disch:=omega) only[FS,C_] at *)<;>(first|trivial|omega|exact⟨O,O,O,O,O,YY _ _⟩|skip)<;>(first|(refine⟨⟨O,O,O,O,O,?_⟩,O⟩;rw[YC _ O] at a6;rw[Tk _ O,cS];exact a6)|(refine⟨⟨O,O,O,O,O,?_⟩,O⟩;rw[Aay O ‹_›] at a6;rw[bK];exact a6)|(refine⟨⟨O,O,O,O,O,?_⟩,O⟩;rw[Y3 O O ‹_›] at a6;exact a6)|(rw[Tk _ O,cS] at a6;exact a6)|skip))
def pol (s:ByteArray):aA:=⟨true,(K 32 ((K 59 s).getD 0 default)).drop 1,(K 32 ((K 59 s).getD 1 default)).drop 1,(K 32 ((K 59 s).getD 2 default)).drop 1,if 3<(K 59 s).length/\6<((K 59 s).getD 3 default).size then((K 59 s).getD 3 default).extract 6 ((K 59 s).getD 3 default).size else⟨#[]⟩⟩
def parseP (s:ByteArray):aA×Bool:=if s=⟨#[]⟩ then(default,true) else if 3<=(K 59 s).length/\formatP (pol s)=s then(pol s,true) else(default,false)
def Dq (b:UInt8) (s:ByteArray) (k:Nat):((K b s).getD k default).size<=s.size:=by
 by_cases h:k<(K b s).length
 .exact RC (Ae h)
 .rw[bB,List.getElem?_eq_none O];exact Nat.zero_le _
def To {s n:ByteArray} (hn:n.size<=s.size):AG ⟨true,(K 32 ((K 59 s).getD 0 default)).drop 1,(K 32 ((K 59 s).getD 1 default)).drop 1,(K 32 ((K 59 s).getD 2 default)).drop 1,n⟩<=4*(s.size+1):=by
 have h0:=Dq 59 s 0;have h1:=Dq 59 s 1;have h2:=Dq 59 s 2;have d0:=Qp Ag (K 32 ((K 59 s).getD 0 default)) 1;have d1:=Qp Ag (K 32 ((K 59 s).getD 1 default)) 1;have d2:=Qp Ag (K 32 ((K 59 s).getD 2 default)) 1;rw[PH] at d0 d1 d2;simp only[AG];omega
abbrev B0:Fct:=⟨[.v (.el .str)],[.el .bm,.el .bool],λ(x:E_)=>x.1.size<=200000000,λ(x:E_)=>((parseP x.1).1,(parseP x.1).2,())⟩
def AoD:=AnD.a B0<|Fct.o (KP [0,2,3,4,5] [7,13,40,49]) AnD.2 func59 (by
 rintro⟨(s:ByteArray),_⟩ hp;refine ho (let aO:=({ data := #[]:ByteArray });let J_:Out:=.leaf (.tup [(true,[vb (false),.nl,.nl,.nl,vs aO]),(false,[vb (false)])]) [] [];.br (ByteArray.toList s=={ data := #[]:ByteArray }.toList) (.leaf (.tup [(true,[vb (false),.nl,.nl,.nl,vs aO]),(false,[vb (true)])]) [] []) (.ob (DQ.pre (s,(59:Int),()))<|.lt bS (DQ.fn (s,(59:Int),())) λz2=>let bP:=(3:Nat)<z2.fst.length;let ay:=(z2.fst.length:Int);let aK:=(0:Int)<=(3:Int)/\(3:Int)<ay;let aq:=z2.fst.getD (3:Nat) default;.br (decide (ay<(3:Int))) J_ (.ob ((0:Int)<=(0:Int)/\(0:Int)<ay)<|.ob ((0:Nat)<z2.fst.length)<|.ob (DQ.pre (z2.fst.getD (0:Nat) default,(32:Int),()))<|.lt bS (DQ.fn (z2.fst.getD (0:Nat) default,(32:Int),())) λz3=>let L_:=z3.fst.length-(1:Nat);let aJ:=(1:Nat)+L_<=z3.fst.length;.ob ((0:Int)<=(1:Int)/\(1:Int)<=(z3.fst.length:Int))<|.ob ((0:Int)<=(1:Int)/\(1:Int)<ay)<|.ob ((1:Nat)<z2.fst.length)<|.ob (DQ.pre (z2.fst.getD (1:Nat) default,(32:Int),()))<|.lt bS (DQ.fn (z2.fst.getD (1:Nat) default,(32:Int),())) λz4=>let O_:=z4.fst.length-(1:Nat);let bD:=(1:Nat)+O_<=z4.fst.length;.ob ((0:Int)<=(1:Int)/\(1:Int)<=(z4.fst.length:Int))<|.ob ((0:Int)<=(2:Int)/\(2:Int)<ay)<|.ob ((2:Nat)<z2.fst.length)<|.ob (DQ.pre (z2.fst.getD (2:Nat) default,(32:Int),()))<|.lt bS (DQ.fn (z2.fst.getD (2:Nat) default,(32:Int),())) λz5=>let Y_:=z5.fst.length-(1:Nat);let bQ:=(1:Nat)+Y_<=z5.fst.length;let H_:Out:=.ob aJ<|.ob bD<|.ob bQ<|.ob (Ax.pre ({ set_:=true,bt:=cut z3.fst (1:Nat) L_,styles:=cut z4.fst (1:Nat) O_,images:=cut z5.fst (1:Nat) Y_,nonce:={ data := #[]:ByteArray }:aA },()))<|.lt E_ (Ax.fn ({ set_:=true,bt:=cut z3.fst (1:Nat) L_,styles:=cut z4.fst (1:Nat) O_,images:=cut z5.fst (1:Nat) Y_,nonce:={ data := #[]:ByteArray }:aA },())) λz7=>.br (!z7.fst.toList==ByteArray.toList s) J_ (.ob aJ<|.ob bD<|.ob bQ<|.leaf (mkR B0.rs (⟨true,cut z3.fst (1:Nat) L_,cut z4.fst (1:Nat) O_,cut z5.fst (1:Nat) Y_,{ data := #[]:ByteArray }⟩,true,())) [] []);.ob ((0:Int)<=(1:Int)/\(1:Int)<=(z5.fst.length:Int))<|.br (decide (ay>(3:Int))) (.ob aK<|.ob bP<|.br (decide ((aq.size:Int)>(6:Int))) (.ob aK<|.ob bP<|.ob ((0:Int)<=(6:Int)/\(6:Int)<=(aq.size:Int))<|.ob aJ<|.ob bD<|.ob bQ<|.ob (Ax.pre ({ set_:=true,bt:=cut z3.fst (1:Nat) L_,styles:=cut z4.fst (1:Nat) O_,images:=cut z5.fst (1:Nat) Y_,nonce:=aq.extract (6:Nat) aq.size:aA },()))<|.lt E_ (Ax.fn ({ set_:=true,bt:=cut z3.fst (1:Nat) L_,styles:=cut z4.fst (1:Nat) O_,images:=cut z5.fst (1:Nat) Y_,nonce:=aq.extract (6:Nat) aq.size:aA },())) λz6=>.br (!z6.fst.toList==ByteArray.toList s) J_ (.ob aJ<|.ob bD<|.ob bQ<|.leaf (mkR B0.rs (⟨true,cut z3.fst (1:Nat) L_,cut z4.fst (1:Nat) O_,cut z5.fst (1:Nat) Y_,aq.extract (6:Nat) aq.size⟩,true,())) [] [])) H_) H_))) ?_;refine Z (λh1=>Fct.leafZ (default,true,()) (by repeat' first|exact rfl|exact trivial|refine And.intro ?_ ?_) ?_) λh1=>Ad ?_ λ_=>K6 (Z (λh3=>Fct.leafZ (default,false,()) (by repeat' first|exact rfl|exact trivial|refine And.intro ?_ ?_) ?_) λh3=>Ad ?_ λ_=>Ad ?_ λ_=>Ad ?_ λ_=>K6 (Ad ?_ λ_=>Ad ?_ λ_=>Ad ?_ λ_=>Ad ?_ λ_=>K6 (Ad ?_ λ_=>Ad ?_ λ_=>Ad ?_ λ_=>Ad ?_ λ_=>K6 (Ad ?_ λ_=>Z (λh16=>Ad ?_ λ_=>Ad ?_ λ_=>Z (λh19=>Ad ?_ λ_=>Ad ?_ λ_=>Ad ?_ λ_=>Ad ?_ λ_=>Ad ?_ λ_=>Ad ?_ λ_=>Ad ?_ λ_=>K6 (Z (λh27=>Fct.leafZ (default,false,()) (by repeat' first|exact rfl|exact trivial|refine And.intro ?_ ?_) ?_) λh27=>Ad ?_ λ_=>Ad ?_ λ_=>Ad ?_ λ_=>Fct.leafY ?_)) λh19=>Ad ?_ λ_=>Ad ?_ λ_=>Ad ?_ λ_=>Ad ?_ λ_=>K6 (Z (λh35=>Fct.leafZ (default,false,()) (by repeat' first|exact rfl|exact trivial|refine And.intro ?_ ?_) ?_) λh35=>Ad ?_ λ_=>Ad ?_ λ_=>Ad ?_ λ_=>Fct.leafY ?_)) λh16=>Ad ?_ λ_=>Ad ?_ λ_=>Ad ?_ λ_=>Ad ?_ λ_=>K6 (Z (λh43=>Fct.leafZ (default,false,()) (by repeat' first|exact rfl|exact trivial|refine And.intro ?_ ?_) ?_) λh43=>Ad ?_ λ_=>Ad ?_ λ_=>Ad ?_ λ_=>Fct.leafY ?_)))));all_goals
  try simp only[WJ] at *
  try simp only[std,Nat.reduceAdd,Adh] at *
  try simp only[show UInt8.ofNat (Int.toNat 59)=59 from rfl,show UInt8.ofNat (Int.toNat 32)=32 from rfl] at *
 all_goals (have g0:=Dq 59 s 0;have g1:=Dq 59 s 1;have g2:=Dq 59 s 2;have g3:=Dq 59 s 3;have k0:=Eg 32 ((K 59 s).getD 0 default);have k1:=Eg 32 ((K 59 s).getD 1 default);have k2:=Eg 32 ((K 59 s).getD 2 default))<;>(first|trivial|omega|(with_reducible refine aP (To (Nat.zero_le _)) ?_;omega)|(with_reducible refine aP (To ?_) ?_;(rw[db];omega);omega)|skip)<;>(first|(simp only[parseP];rw[G_ ‹_›];exact⟨rfl,rfl⟩)|(simp only[parseP];rw[F_ ‹_›,F_ O];exact⟨rfl,rfl⟩)|(simp only[parseP,pol];grind)|skip))
def isResponse (x:M_):Bool:=inRange x.status 100 599&&(inRange x.kind 1 5&&(decide (x.body.size<=400)&&(inRange x.age 0 1000&&(parseP x.bm).2)))
abbrev AC:Fct:=⟨[.v (.el .bd)],[.el .bool],λ(x:ar)=>x.1.bm.size<=200000000,λ(x:ar)=>(isResponse x.1,())⟩
def Aor:=AoD.a AC<|Fct.o [1,2,4] AoD.2 func60 (λ⟨(x:M_),_⟩ hp=>hg (.cl B0 (x.bm,()) λz2=>.cl Ap (x.status,(100:Int),(599:Int),()) λz3=>.br (z3.1) (.cl Ap (x.kind,(1:Int),(5:Int),()) λz4=>.br (z4.1) (.br (decide ((x.body.size:Int)<=400)) (.cl Ap (x.age,(0:Int),(1000:Int),()) λz5=>.br (z5.1) (.lf AC (z2.2.1,())) (.lf AC (false,()))) (.lf AC (false,()))) (.lf AC (false,()))) (.lf AC (false,()))) (@isResponse.eq_1))
def entOk (all:List bJ):List bJ->Int->Bool
 | [],_=>true
 | e::l,i=>isName e.top&&(isName e.to.host&&isName e.to.path)&&isResponse e.bd&&decide (e.bd.status=200)&&decide (fidx (λx=>decide (x.top=e.top)&&decide (x.to=e.to)) all 0=i)&&entOk all l (i+1)
theorem dq {all l:List bJ} {i:Nat} {k:Int} (h:i<l.length):entOk all (l.drop i) k=(isName (l.getD i default).top&&(isName (l.getD i default).to.host&&isName (l.getD i default).to.path)&&isResponse (l.getD i default).bd&&decide ((l.getD i default).bd.status=200)&&decide (fidx (λx=>decide (x.top=(l.getD i default).top)&&decide (x.to=(l.getD i default).to)) all 0=k)&&entOk all (l.drop (i+1)) (k+1)):=by rw[B_ h];rfl
theorem cR {all l:List bJ} {i:Nat} {k:Int} (h:l.length<=i):entOk all (l.drop i) k=true:=by rw[cx h];rfl
def isCache (c:aZ):Bool:=entOk c.bh c.bh 0&&decide (c.bh.length<=100)
abbrev Dk:Fct:=⟨[.v (.el .cache)],[.el .bool],λ(x:cA)=>szCache x.1<=200000000,λ(x:cA)=>(isCache x.1,())⟩
def Ni {l:List bJ} {i:Nat} (h:i<l.length):AK (l.getD i default)+l.length<=U AK l:=Cy AK h
abbrev B4 (c:aZ):LInv:=⟨[⟨.s,3,true,.el .int⟩,⟨.b,1,false,.el .cache⟩],λ(z x:dH)=>(0<=x.1/\x.1<=c.bh.length/\entOk c.bh (c.bh.drop x.1.toNat) x.1=entOk c.bh c.bh 0)/\x.2.1=z.2.1,λ(x:dH)=>c.bh.length-x.1.toNat⟩
def Aqg:=Aor.a Dk<|Fct.p (KP [1,2,3,4] [9,48]) (λ⟨c,_⟩=>lv [(2,B4 c)]) Aor.2 func146 (by
 rintro⟨(c:aZ),_⟩ hp;refine ho (let J_:Out:=.lf Dk (false,());lpx (B4 c) ((0:Int),(c,())) λ(y1:dH) bk1=>let L_:=(y1.2.1.bh.length:Int);let H_:=y1.2.1.bh.getD y1.1.toNat default;.br (decide (y1.1<L_)) (.ob (inB y1.1 y1.2.1.bh.length)<|.cl By (H_.top,()) λz2=>.br (!z2.1) J_ (.cl DN (H_.to,()) λz3=>.br (!z3.1) J_ (.cl AC (H_.bd,()) λz4=>.br (!z4.1) J_ (.br (H_.bd.status != 200) J_ (.cl Dl (y1.2.1,H_.top,H_.to,()) λ(z5:D_)=>.br (z5.1 != y1.1) J_ (.bk (bk1 (w1 y1.1,(y1.2.1,()))))))))) (.lf Dk (decide (L_<=100),()))) ?_;repeat' (guard_target =~ Out.holds _ _;first|refine Ay (li:=B4 c) ?_ λ(y1:dH) i1=>?_|refine Y ?_|refine Z (λ_=>?_) λ_=>?_|refine Ai ?_ λ_=>?_|refine Ad ?_ λ_=>?_|refine AR ?_)
 all_goals (have hl:=Ac AK c.bh;have hg:∀ i,i<c.bh.length->(c.bh.getD i default).top.size<=200000000/\(c.bh.getD i default).to.host.size<=200000000/\(c.bh.getD i default).to.path.size<=200000000/\(c.bh.getD i default).bd.bm.size<=200000000:=λi h=>by have:=Ni h;have hp2:szCache c<=200000000:=hp;simp only[AK,szCache,szAddr,Ab] at *;omega)<;>(try simp only[std,Nat.reduceAdd,isCache,szCache,dq,cR] at *)<;>(try simp(disch:=omega) only[FS,C_] at *)<;>(try simp(disch:=omega) only[G_,F_])<;>(first|trivial|omega|grind[FS,C_,B_,K_,I_,maxLen,isCache,szCache,dq,cR]))
def Ae5:Go.Proofs.Lays.n101 Tryz.prog laysCmp_r:=by repeat' first|kernel_rfl|constructor|intro _
def Aqj:=Aqg.a Hs<|Aks (Go.Proofs.Any.strings_TrimPrefix Ae5)
def Abj:Go.Proofs.Lays.n146 Tryz.prog laysCmp_r:=by repeat' first|kernel_rfl|constructor|intro _
def Aqd:=Aqj.a N0<|AeD λs sep w h hs h1=>by obtain⟨m,hm⟩:=Vl (zero := #[.int .i64 0]) (t:=3) (g:=laysCmp_r.g 1) h (ee k_) k_ rfl k_ k_ Tryz.underlying3;exact Go.Proofs.Any.strings_Split Abj k_ s sep m w hs hm h1
def V5:Go.Proofs.Lays.n156 Tryz.prog laysCmp_r:=by repeat' first|kernel_rfl|constructor|intro _
def Td:Go.Proofs.Builder.Extra Tryz.prog laysCmp_r:=⟨⟨k_,k_⟩,k_,λ_=>k_,λ_=>k_,λ_=>k_,k_,k_,k_,by decide⟩
def Ani:=Aqd.a TX<|AjI (λ_ _=>trivial) (Go.Proofs.Any.strings_Join_none V5 Td) (Go.Proofs.Any.strings_Join V5 Td)
def Ph (sep x:List UInt8):∀ l:List (List UInt8),Sg sep (x::l)=x++(l.map (sep++·)).flatten
 | []=>by simp[Sg]
 | y::l=>by rw[Sg,Ph sep y l,aY,List.flatten_cons];simp
def KS:∀ (l:List ByteArray) (w:ByteArray),I (words9 w l)=I w++(l.map λx=>32::I x).flatten
 | [],w=>by simp[words9]
 | x::l,w=>by rw[words9,KS l,Ar,Ar,aY,List.flatten_cons];simp[I]
def T2 (w:ByteArray) (l:List ByteArray):NV (w::l) ⟨#[32]⟩=words9 w l:=by
 unfold NV;rw[<-AM (words9 w l),KS,aY,Ph,dz];congr 2
def Ank:=Ani.a Ax<|Fct.o (KP [1,2,3] [11,33]) Ani.2 func245 (by
 rintro⟨(p:aA),_⟩ hp;refine ho (let Y_:=(⟨#[]⟩:ByteArray);let O_:=(⟨#[32]⟩:ByteArray);let L_:Out:=.lf Ax (Y_,());let J_:=(⟨#[59,110,111,110,99,101,32]⟩:ByteArray);let H_:=(⟨#[59]⟩:ByteArray);.cl BN (p,()) λz2=>.br (!z2.1) L_ (.br (!p.set_) L_ (.ap (1+p.bt.length) 16<|.cl TX ([(⟨#[115,99,114,105,112,116]⟩:ByteArray)]++p.bt,O_,()) λz3=>.ob (sameSize z3.1 H_)<|.ap (1+p.styles.length) 16<|.cl TX ([(⟨#[115,116,121,108,101]⟩:ByteArray)]++p.styles,O_,()) λz4=>.ob (sameSize (z3.1++H_) z4.1)<|.ob (sameSize (z3.1++H_++z4.1) H_)<|.ap (1+p.images.length) 16<|.cl TX ([(⟨#[105,109,103]⟩:ByteArray)]++p.images,O_,()) λz5=>.ob (sameSize (z3.1++H_++z4.1++H_) z5.1)<|.br (!p.nonce.toList==Y_.toList) (.ob (sameSize J_ p.nonce)<|.ob (sameSize (z3.1++H_++z4.1++H_++z5.1) (J_++p.nonce))<|.lf Ax (z3.1++H_++z4.1++H_++z5.1++(J_++p.nonce),())) (.lf Ax (z3.1++H_++z4.1++H_++z5.1,()))))) ?_;repeat' (guard_target =~ Out.holds _ _;first|refine Y ?_|refine Z (λ_=>?_) λ_=>?_|refine Ai ?_ λ_=>?_|refine Ad ?_ λ_=>?_|refine FB ?_ λ_=>?_)
 all_goals (try simp only[TX,std,Nat.reduceAdd,List.singleton_append,T2] at *)<;>(first|trivial|omega|skip)<;>(try have hA:isPolicy p=true:=‹_›;have hB:p.set_=true:=‹_›;obtain⟨a1,a2,a3,a4,a5,a6,a7⟩:=Ea hA hB)<;>(try have b1:=Ef (w:=⟨#[115,99,114,105,112,116]⟩) a1 a2 (by decide))<;>(try have b2:=Ef (w:=⟨#[115,116,121,108,101]⟩) a3 a4 (by decide))<;>(try have b3:=Ef (w:=⟨#[105,109,103]⟩) a5 a6 (by decide))<;>(try simp only[TX,std,Nat.reduceAdd,formatP,sameSize,aQ,ByteArray.append_assoc] at *)<;>(try simp(disch:=omega) only[FS,C_] at *)<;>(try simp(disch:=omega) only[G_,F_])<;>(first|trivial|omega|grind[FS,C_,B_,K_,I_,maxLen,formatP,sameSize,ByteArray.size_append,ByteArray.append_assoc]))
def Ajq {b:UInt8} (hb:nameByte b=false) {s:ByteArray} (h:isName s=true):b∉I s:=by
 intro hm;simp only[isName,T_,allB,aM] at h;rw[h.1 b hm] at hb;cases hb
def NO {b:UInt8} (hb:nameByte b=false) (h32:b≠32) {l:List ByteArray} {w:ByteArray} (hl:l.all isName=true) (hw:b∉I w):b∉I (words9 w l):=by
 rw[KS];simp only[ah,not_or,List.mem_flatten,bM,not_exists,not_and];refine⟨hw,?_⟩;rintro _ ⟨x,hx,rfl⟩ hm;rcases au.1 hm with rfl|hm
 .exact h32 rfl
 .exact Ajq hb (aM.1 hl x hx) hm
def QW {b:UInt8} (hb:valByte b=false) {s:ByteArray} (h:isValue s=true):b∉I s:=by
 intro hm;simp only[isValue,T_,allB,aM] at h;rw[h.1 b hm] at hb;cases hb
def AdS {b:UInt8} {s:ByteArray} (h:b∉I s):K b s=[s]:=by
 unfold K;rw[HY h];simp[AM]
def J8 {b:UInt8} {s t:ByteArray} (h:b∉I s):K b (s++⟨#[b]⟩++t)=s::K b t:=by
 unfold K;rw[Ar,Ar,show I ⟨#[b]⟩=[b] from rfl,bK,List.singleton_append,GB _ h,aY,AM]
def Y8 {q:aA} (hp:isPolicy q=true) (hs:q.set_=true):(q.nonce=⟨#[]⟩/\(K 59 (formatP q)).length=3)\/(q.nonce≠⟨#[]⟩/\(K 59 (formatP q)).length=4/\(K 59 (formatP q)).getD 3 default=⟨#[110,111,110,99,101,32]⟩++q.nonce):=by
 obtain⟨a1,a2,a3,a4,a5,a6,a7⟩:=Ea hp hs;have b1:=NO (b:=59) rfl (by decide) a1 (w:=⟨#[115,99,114,105,112,116]⟩) (by decide);have b2:=NO (b:=59) rfl (by decide) a3 (w:=⟨#[115,116,121,108,101]⟩) (by decide);have b3:=NO (b:=59) rfl (by decide) a5 (w:=⟨#[105,109,103]⟩) (by decide);by_cases hn:q.nonce=⟨#[]⟩
 .refine .inl ⟨hn,?_⟩;have e:formatP q=words9 ⟨#[115,99,114,105,112,116]⟩ q.bt++⟨#[59]⟩++(words9 ⟨#[115,116,121,108,101]⟩ q.styles++⟨#[59]⟩++words9 ⟨#[105,109,103]⟩ q.images):=by unfold formatP;rw[G_ (by simp[hp,hs]),G_ hn];simp only[ByteArray.append_assoc]
  rw[e,J8 b1,J8 b2,AdS b3];rfl
 .refine .inr ⟨hn,?_⟩;have hv:isValue q.nonce=true:=by simp only[isPolicy,hs,aD,T_,dt,az] at hp;simp_all
  have b4:(59:UInt8)∉I (⟨#[110,111,110,99,101,32]⟩++q.nonce):=by rw[Ar,ah,not_or];exact⟨by decide,QW rfl hv⟩
  have e:formatP q=words9 ⟨#[115,99,114,105,112,116]⟩ q.bt++⟨#[59]⟩++(words9 ⟨#[115,116,121,108,101]⟩ q.styles++⟨#[59]⟩++(words9 ⟨#[105,109,103]⟩ q.images++⟨#[59]⟩++(⟨#[110,111,110,99,101,32]⟩++q.nonce))):=by
   unfold formatP;rw[G_ (by simp[hp,hs]),F_ hn];have:(⟨#[59,110,111,110,99,101,32]⟩:ByteArray)=⟨#[59]⟩++⟨#[110,111,110,99,101,32]⟩:=by decide
   rw[this];simp only[ByteArray.append_assoc]
  rw[e,J8 b1,J8 b2,J8 b3,AdS b4];exact⟨rfl,rfl⟩
def polCandI (s:ByteArray):aA:={ pol s with nonce:=if 3<(K 59 s).length then R9 ((K 59 s).getD 3 default) ⟨#[110,111,110,99,101,32]⟩ else⟨#[]⟩}
def Ab6 {q:aA} {s:ByteArray} (h:formatP q=s) (hs:s≠⟨#[]⟩):isPolicy q=true/\q.set_=true:=by
 unfold formatP at h;grind
def ZV (n:ByteArray):R9 (⟨#[110,111,110,99,101,32]⟩++n) ⟨#[110,111,110,99,101,32]⟩=n:=by
 rfl
def Af4 (n:ByteArray):(⟨#[110,111,110,99,101,32]⟩++n:ByteArray).extract 6 (⟨#[110,111,110,99,101,32]⟩++n:ByteArray).size=n:=by
 rw[<-AM (ByteArray.extract _ _ _),AI,Ar,cC (by rw[al,AU,AU,aQ];exact X_ _)];rfl
def AdR {s:ByteArray} (hs:s≠⟨#[]⟩):(formatP (polCandI s)=s↔formatP (pol s)=s)/\(formatP (pol s)=s->polCandI s=pol s):=by
 have key:∀ q:aA,formatP q=s->(3<(K 59 s).length->q.nonce=R9 ((K 59 s).getD 3 default) ⟨#[110,111,110,99,101,32]⟩/\q.nonce=(if 3<(K 59 s).length/\6<((K 59 s).getD 3 default).size then((K 59 s).getD 3 default).extract 6 ((K 59 s).getD 3 default).size else⟨#[]⟩)):=by
  intro q hq hl;obtain⟨h1,h2⟩:=Ab6 hq hs;rcases Y8 h1 h2 with⟨_,h3⟩|⟨h3,h4,h5⟩
  .rw[hq] at h3;omega
  .rw[hq] at h4 h5;rw[h5,ZV];refine⟨rfl,?_⟩;have hsz:0<q.nonce.size:=by
    rcases Nat.eq_zero_or_pos q.nonce.size with h|h
    .exact absurd (ByteArray.ext (Array.eq_empty_of_size_eq_zero h)) h3
    .exact h
   rw[G_ ⟨hl,by rw[aQ,show ByteArray.size ⟨#[110,111,110,99,101,32]⟩=6 from rfl];omega⟩,Af4]
 have same:(formatP (polCandI s)=s\/formatP (pol s)=s)->polCandI s=pol s:=by
  intro h;by_cases hl:3<(K 59 s).length
  .have hn:(polCandI s).nonce=(pol s).nonce:=by
    have e1:(polCandI s).nonce=R9 ((K 59 s).getD 3 default) ⟨#[110,111,110,99,101,32]⟩:=by simp only[polCandI];rw[G_ hl]
    rcases h with h|h
    .exact(key _ h hl).2
    .simp_all
   have e:polCandI s={ pol s with nonce:=(polCandI s).nonce }:=rfl;rw[e,hn]
  .have e:polCandI s={ pol s with nonce:=(polCandI s).nonce }:=rfl;have h1:(polCandI s).nonce=⟨#[]⟩:=by simp only[polCandI];rw[F_ hl]
   have h2:(pol s).nonce=⟨#[]⟩:=by simp only[pol];rw[F_ λhh=>hl hh.1]
   rw[e,h1,<-h2]
 grind
def Ajn {s:ByteArray} (h1:s≠⟨#[]⟩) (h3:3<=(K 59 s).length) {q:aA} (hq:q=polCandI s):(formatP q≠s->parseP s=(default,false))/\(formatP q=s->parseP s=(q,true)):=by
 subst hq;have hc:=AdR h1;unfold parseP;simp_all
def Ai8 {s:ByteArray} (h:3<(K 59 s).length):(⟨true,(K 32 ((K 59 s).getD 0 default)).drop 1,(K 32 ((K 59 s).getD 1 default)).drop 1,(K 32 ((K 59 s).getD 2 default)).drop 1,R9 ((K 59 s).getD 3 default) ⟨#[110,111,110,99,101,32]⟩⟩:aA)=polCandI s:=by
 unfold polCandI pol;rw[G_ h]
def AjH {s:ByteArray} (h:¬ 3<(K 59 s).length):(⟨true,(K 32 ((K 59 s).getD 0 default)).drop 1,(K 32 ((K 59 s).getD 1 default)).drop 1,(K 32 ((K 59 s).getD 2 default)).drop 1,⟨#[]⟩⟩:aA)=polCandI s:=by
 unfold polCandI pol;rw[F_ h]
def Yr (s p:ByteArray):(R9 s p).size<=s.size:=by
 unfold R9 Go.Lib.trimPrefix;rw[show ∀ l:List UInt8,ByteArray.size ⟨l.toArray⟩=l.length from λl=>by simp[ByteArray.size]];split
 .simp
 .exact X_ _
def Apd:=Ank.a B0<|Fct.o [0,2,3,4,5,6,7,9,15,18,19,39,48,1000009,1000015,1000019,1000039,1000048,64000516,200000019] Ank.2 func200 (by
 rintro⟨(s:ByteArray),_⟩ hp;refine ho (let bD:=(⟨#[32]⟩:ByteArray);let aJ:=(0:Int)<=(2:Int)/\(2:Int)<(3:Int);let ay:=(0:Int)<=(1:Int)/\(1:Int)<(3:Int);let aq:=(0:Int)<=(0:Int)/\(0:Int)<(3:Int);let Y_:=(⟨#[]⟩:ByteArray);let H_:Out:=.leaf (.tup [(true,[vb (false),.nl,.nl,.nl,vs (Y_)]),(false,[vb (false)])]) [] [];.br (ByteArray.toList s==Y_.toList) (.leaf (.tup [(true,[vb (false),.nl,.nl,.nl,vs (Y_)]),(false,[vb (true)])]) [] []) (.cl N0 (s,(⟨#[59]⟩:ByteArray),()) λz2=>let O_:=(z2.1.length:Int);.br (decide (O_<3)) H_ (.ob ((0:Int)<=(0:Int)/\(0:Int)<O_)<|.ob (0<z2.1.length)<|.cl N0 (z2.1.getD 0 default,bD,()) λz3=>let bQ:=z3.1.length-1;.ob ((0:Int)<=(1:Int)/\(1:Int)<=(z3.1.length:Int))<|.ob aq<|.ob (1+bQ<=z3.1.length)<|.ob ((0:Int)<=(1:Int)/\(1:Int)<O_)<|.ob (1<z2.1.length)<|.cl N0 (z2.1.getD 1 default,bD,()) λz4=>let aK:=z4.1.length-1;.ob ((0:Int)<=(1:Int)/\(1:Int)<=(z4.1.length:Int))<|.ob ay<|.ob (1+aK<=z4.1.length)<|.ob ((0:Int)<=(2:Int)/\(2:Int)<O_)<|.ob (2<z2.1.length)<|.cl N0 (z2.1.getD 2 default,bD,()) λz5=>let aO:=z5.1.length-1;let J_:=(⟨true,cut z3.1 1 bQ,cut z4.1 1 aK,cut z5.1 1 aO,Y_⟩:aA);.ob ((0:Int)<=(1:Int)/\(1:Int)<=(z5.1.length:Int))<|.ob aJ<|.ob (1+aO<=z5.1.length)<|.ob aq<|.ob ay<|.ob aJ<|.br (decide (O_>3)) (.ob ((0:Int)<=(3:Int)/\(3:Int)<O_)<|.ob (3<z2.1.length)<|.cl Hs (z2.1.getD 3 default,(⟨#[110,111,110,99,101,32]⟩:ByteArray),()) λz6=>let L_:=(⟨true,cut z3.1 1 bQ,cut z4.1 1 aK,cut z5.1 1 aO,z6.1⟩:aA);.cl Ax (L_,()) λz7=>.br (!z7.1.toList==ByteArray.toList s) H_ (.cl DL (L_,()) λz8=>.lf B0 (z8.1,true,()))) (.cl Ax (J_,()) λz9=>.br (!z9.1.toList==ByteArray.toList s) H_ (.cl DL (J_,()) λz10=>.lf B0 (z10.1,true,())))))) ?_;refine Z (λh1=>Fct.leafZ (default,true,()) (by repeat' first|exact rfl|exact trivial|refine And.intro ?_ ?_) ?_) λh1=>Ai ?_ λ_=>Z (λh3=>Fct.leafZ (default,false,()) (by repeat' first|exact rfl|exact trivial|refine And.intro ?_ ?_) ?_) λh3=>Ad ?_ λ_=>Ad ?_ λ_=>Ai ?_ λ_=>Ad ?_ λ_=>Ad ?_ λ_=>Ad ?_ λ_=>Ad ?_ λ_=>Ad ?_ λ_=>Ai ?_ λ_=>Ad ?_ λ_=>Ad ?_ λ_=>Ad ?_ λ_=>Ad ?_ λ_=>Ad ?_ λ_=>Ai ?_ λ_=>Ad ?_ λ_=>Ad ?_ λ_=>Ad ?_ λ_=>Ad ?_ λ_=>Ad ?_ λ_=>Ad ?_ λ_=>Z (λh25=>Ad ?_ λ_=>Ad ?_ λ_=>Ai trivial λ_=>Ai ?_ λ_=>Z (λh29=>Fct.leafZ (default,false,()) (by repeat' first|exact rfl|exact trivial|refine And.intro ?_ ?_) ?_) λh29=>Ai ?_ λ_=>Y ?_) λh25=>Ai ?_ λ_=>Z (λh32=>Fct.leafZ (default,false,()) (by repeat' first|exact rfl|exact trivial|refine And.intro ?_ ?_) ?_) λh32=>Ai ?_ λ_=>Y ?_;all_goals
  try simp only[WJ] at *
  try simp only[N0,Hs,std,Nat.reduceAdd,Adh] at *
  try simp only[show(ByteArray.mk #[59]).data.getD 0 0=59 from rfl,show(ByteArray.mk #[32]).data.getD 0 0=32 from rfl,show(ByteArray.mk #[59]).size=1 from rfl,show(ByteArray.mk #[32]).size=1 from rfl] at *
 all_goals (have g0:=Dq 59 s 0;have g1:=Dq 59 s 1;have g2:=Dq 59 s 2;have g3:=Dq 59 s 3;have k0:=Eg 32 ((K 59 s).getD 0 default);have k1:=Eg 32 ((K 59 s).getD 1 default);have k2:=Eg 32 ((K 59 s).getD 2 default);have tz:=Yr ((K 59 s).getD 3 default) ⟨#[110,111,110,99,101,32]⟩)<;>(first|trivial|omega|(with_reducible refine aP (To (Nat.zero_le _)) ?_;omega)|(with_reducible refine aP (To ?_) ?_;omega;omega)|skip)<;>(first|(simp only[parseP];rw[G_ ‹_›];exact⟨rfl,rfl⟩)|(simp only[parseP];rw[F_ ‹_›,F_ O];exact⟨rfl,rfl⟩)|skip)<;>(first|(have hq:=Ai8 (s:=s) O)|(have hq:=AjH (s:=s) O))<;>obtain⟨p1,p2⟩:=Ajn ‹_› O hq<;>(first|(rw[p1 ‹_›];exact⟨rfl,rfl⟩)|(rw[p2 ‹_›];exact⟨rfl,rfl⟩)))
def Apv:=Apd.a AC<|Fct.o [1,2,4] Apd.2 func138 (λ⟨(x:M_),_⟩ hp=>hg (.cl B0 (x.bm,()) λz2=>.br (z2.2.1) (.cl Ap (x.status,(100:Int),(599:Int),()) λz3=>.br (z3.1) (.cl Ap (x.kind,(1:Int),(5:Int),()) λz4=>.br (z4.1) (.br (decide ((x.body.size:Int)<=400)) (.cl Ap (x.age,(0:Int),(1000:Int),()) λz5=>.lf AC (z5.1,())) (.lf AC (false,()))) (.lf AC (false,()))) (.lf AC (false,()))) (.lf AC (false,()))) (@isResponse.eq_1))
abbrev DC (c:aZ):LInv:=⟨[⟨.s,8,true,.el .int⟩,⟨.b,1,false,.el .cache⟩],λ(z x:dH)=>(0<=x.1/\x.1<=c.bh.length/\entOk c.bh (c.bh.drop x.1.toNat) x.1=entOk c.bh c.bh 0)/\x.2.1=z.2.1,λ(x:dH)=>c.bh.length-x.1.toNat⟩
def An3:=Apv.a Dk<|Fct.p (KP [1,2,3,4,6,7,8] [9,44]) (λ⟨c,_⟩=>lv [(2,DC c)]) Apv.2 func269 (λ⟨(c:aZ),_⟩ hp=>hg (let O_:=(c.bh.length:Int);let L_:=DC c;let J_:Out:=.lf Dk (false,());.lq (Int×aZ×PUnit) L_.inv L_.m ((0:Int),(c,())) λy1 bk1=>let H_:=c.bh.getD y1.1.toNat default;.br (decide (y1.1<O_)) (.ob (inB y1.1 c.bh.length)<|.cl By (H_.top,()) λz2=>.br (!z2.1) J_ (.cl DN (H_.to,()) λz3=>.br (!z3.1) J_ (.cl AC (H_.bd,()) λz4=>.br (!z4.1) J_ (.br (H_.bd.status != 200) J_ (.cl Dl (y1.2.1,H_.top,H_.to,()) λ(z5:D_)=>.br (z5.1 != y1.1) J_ (.re (c.bh)<|.re (Value.int IntKind.i64 O_)<|.bk (bk1 (w1 y1.1,(y1.2.1,()))))))))) (.lf Dk (decide ((y1.2.1.bh.length:Int)<=100),()))) (an_ @isCache.eq_1<|an_ @szCache.eq_1<|an_ @dq<|an_ @cR<|an_ (Ac AK c.bh)<|(λi h=>by have:=Ni h;have hp2:szCache c<=200000000:=hp;simp only[AK,szCache,szAddr,Ab] at *;omega:∀ i,i<c.bh.length->(c.bh.getD i default).top.size<=200000000/\(c.bh.getD i default).to.host.size<=200000000/\(c.bh.getD i default).to.path.size<=200000000/\(c.bh.getD i default).bd.bm.size<=200000000)))
def Ah {J:Type} (f:J->Nat) (x:J) (l:List J):U f (x::l)=f x+1+U f l:=by simp only[U,aY,List.sum_cons,aw];omega
def Dj {J:Type} (f:J->Nat) (l:List J) (x:J):U f (l++[x])=U f l+(f x+1):=by
 induction l with
 | nil=>rw[eH,Ah];simp[U]
 | cons y l ih=>rw[cy,Ah,Ah,ih];omega
def Vn {J:Type} (f:J->Nat) (e:J):∀ (l:List J) (i:Nat),U f (l.modify i λ_=>e)<=U f l+(f e+1)
 | [],i=>by cases i<;>simp[List.modify,U]
 | y::l,0=>by rw[List.modify_zero_cons,Ah,Ah];omega
 | y::l,i+1=>by rw[List.modify_succ_cons,Ah,Ah];have:=Vn f e l i;omega
def Iz {J:Type} (f:J->Nat) {t:J}:∀ {l:List J},t∈l->f t+1<=U f l
 | [],h=>by cases h
 | x::l,h=>by
  rw[Ah];rcases au.1 h with rfl|h
  .omega
  .have:=Iz f h;omega
def putE (c:aZ) (e:bJ) (i:Int):aZ:=if 0<=i then⟨c.bh.modify i.toNat λ_=>e⟩ else⟨c.bh++[e]⟩
def entry (t:ByteArray) (a:HO) (x:M_) (now:Int):bJ:=⟨t,a,x,IntKind.i64.wrap (now+x.age)⟩
def sto (c:aZ) (t:ByteArray) (a:HO) (x:M_) (now:Int):aZ :=
 if x.age≠0/\inRange now 0 999999999000=true/\isCache c=true/\isCache (putE c (entry t a x now) (fidx (λe=>decide (e.top=t)&&decide (e.to=a)) c.bh 0))=true then putE c (entry t a x now) (fidx (λe=>decide (e.top=t)&&decide (e.to=a)) c.bh 0) else c
def I4 {all:List bJ}:∀ {l:List bJ} {k:Int},entOk all l k=true->∀ e∈l,isResponse e.bd=true
 | [],_,_,e,he=>by cases he
 | y::l,k,h,e,he=>by
  simp only[entOk,T_] at h;rcases au.1 he with rfl|he
  .exact h.1.1.1.2
  .exact I4 h.2 e he
def WY {c:aZ} {e:bJ} {i:Int} (hi:i<c.bh.length) (h:isCache (putE c e i)=true):isResponse e.bd=true:=by
 unfold isCache at h;rw[T_] at h;refine I4 h.1 e ?_;unfold putE;split
 .rw[List.mem_iff_getElem?];exact⟨i.toNat,by rw[List.getElem?_modify_eq,aH O];rfl⟩
 .simp
abbrev BA:Fct:=⟨[.v (.el .cache),.v (.el .str),.v (.el .addr),.v (.el .bd),.v (.el .int)],[.el .cache],λ(x:gh)=>szCache x.1<=100000000/\x.2.1.size<=10000000/\szAddr x.2.2.1<=10000000/\Ab x.2.2.2.1<=10000000,λ(x:gh)=>(sto x.1 x.2.1 x.2.2.1 x.2.2.2.1 x.2.2.2.2.1,())⟩
def AnF:=An3.a BA<|Fct.o (KP [1,4,5,7,8,10,11,12,13] [33,48,62]) An3.2 func104 (by
 rintro⟨(c:aZ),(t:ByteArray),(a:HO),(x:M_),(now:Int),_⟩ hp;refine ho (let L_:Out:=.cl CT (c,()) λz9=>.lf BA (z9.1,());let H_:=(⟨t,a,x,wr (now+x.age)⟩:bJ);.cl CT (c,()) λz2=>let J_:Out:=.lf BA (z2.1,());.br (x.age==0) J_ (.cl Ap (now,(0:Int),(999999999000:Int),()) λz3=>.br (!z3.1) J_ (.cl AC (x,()) λz4=>.br (!z4.1) J_ (.cl Dk (c,()) λz5=>.br (!z5.1) J_ (.cl Dl (c,t,a,()) λ(z6:D_)=>.br (decide (z6.1>=0)) (.ix z6.1 z2.1.bh.length<|.lt (List bJ) (z2.1.bh.modify z6.1.toNat λz=>H_) λz7=>.cl Dk ((⟨z7⟩:aZ),()) λz8=>.br (!z8.1) L_ (.lf BA (⟨z7⟩,()))) (.ap (z2.1.bh.length+[H_].length) 120<|.cl Dk ((⟨z2.1.bh++[H_]⟩:aZ),()) λz10=>.br (!z10.1) L_ (.lf BA (⟨z2.1.bh++[H_]⟩,())))))))) ?_;repeat' first|(guard_target =~ Out.holds _ _;first|refine Y ?_|refine Z (λ_=>?_) λ_=>?_|refine Ai ?_ λ_=>?_|refine K6 ?_|refine FB ?_ λ_=>?_|refine Ey ?_ λ_ _=>?_)|exact trivial
 all_goals
  have hi:=BU (λe:bJ=>decide (e.top=t)&&decide (e.to=a)) c.bh 0 O;have hr:=λ(i:Int) (h:i<c.bh.length)=>WY (c:=c) (e:=entry t a x now) h
  have hm:=λi=>Vn AK (entry t a x now) c.bh i
  have hs:=Dj AK c.bh (entry t a x now);have hz:AK (entry t a x now)<=40000000:=by have hp2:szCache c<=100000000/\t.size<=10000000/\szAddr a<=10000000/\Ab x<=10000000:=hp;simp only[AK,entry];omega
  have hq:x.bm.size<=10000000:=by have hp2:szCache c<=100000000/\t.size<=10000000/\szAddr a<=10000000/\Ab x<=10000000:=hp;simp only[Ab] at hp2;omega
  have hn:=Ac AK c.bh;try simp only[std,Nat.reduceAdd,sto,putE,entry,szCache] at *
  try simp(disch:=omega) only[FS,C_] at *
  try simp(disch:=omega) only[G_,F_]
 all_goals first|trivial|omega|grind[FS,C_,I_,maxLen,sto,putE,entry,szCache])
def Apa:=AnF.a BA<|Fct.o (KP [1,4,5,7,8,10,11,12,13] [29,58]) AnF.2 func242 (by
 rintro⟨(c:aZ),(t:ByteArray),(a:HO),(x:M_),(now:Int),_⟩ hp;refine ho (let J_:=(⟨t,a,x,wr (now+x.age)⟩:bJ);let H_:Out:=.cl CT (c,()) λz5=>.lf BA (z5.1,());.cl CT (c,()) λz2=>.cl Dl (c,t,a,()) λ(z3:D_)=>.br (decide (z3.1>=0)) (.ix z3.1 z2.1.bh.length<|.lt (List bJ) (z2.1.bh.modify z3.1.toNat λz=>J_) λz4=>.br (x.age==0) H_ (.cl Ap (now,(0:Int),(999999999000:Int),()) λz6=>.br (!z6.1) H_ (.cl Dk (c,()) λz8=>.br (!z8.1) H_ (.cl Dk ((⟨z4⟩:aZ),()) λz10=>.br (!z10.1) H_ (.lf BA (⟨z4⟩,())))))) (.ap (z2.1.bh.length+[J_].length) 120<|.br (x.age==0) H_ (.cl Ap (now,(0:Int),(999999999000:Int),()) λz13=>.br (!z13.1) H_ (.cl Dk (c,()) λz15=>.br (!z15.1) H_ (.cl Dk ((⟨z2.1.bh++[J_]⟩:aZ),()) λz17=>.br (!z17.1) H_ (.lf BA (⟨z2.1.bh++[J_]⟩,()))))))) ?_;repeat' first|(guard_target =~ Out.holds _ _;first|refine Y ?_|refine Z (λ_=>?_) λ_=>?_|refine Ai ?_ λ_=>?_|refine K6 ?_|refine FB ?_ λ_=>?_|refine Ey ?_ λ_ _=>?_)|exact trivial
 all_goals
  have hi:=BU (λe:bJ=>decide (e.top=t)&&decide (e.to=a)) c.bh 0 O;have hr:=λ(i:Int) (h:i<c.bh.length)=>WY (c:=c) (e:=entry t a x now) h
  have hm:=λi=>Vn AK (entry t a x now) c.bh i
  have hs:=Dj AK c.bh (entry t a x now);have hz:AK (entry t a x now)<=40000000:=by have hp2:szCache c<=100000000/\t.size<=10000000/\szAddr a<=10000000/\Ab x<=10000000:=hp;simp only[AK,entry];omega
  have hq:x.bm.size<=10000000:=by have hp2:szCache c<=100000000/\t.size<=10000000/\szAddr a<=10000000/\Ab x<=10000000:=hp;simp only[Ab] at hp2;omega
  have hn:=Ac AK c.bh;try simp only[std,Nat.reduceAdd,sto,putE,entry,szCache] at *
  try simp(disch:=omega) only[FS,C_] at *
  try simp(disch:=omega) only[G_,F_]
 all_goals first|trivial|omega|grind[FS,C_,I_,maxLen,sto,putE,entry,szCache])
def keepA (n:P_) (t:ByteArray) (a:HO) (x:M_):P_:=if(lookUp n.cache t a n.now).isSome=false/\isResponse x=true/\x.status=200 then{ n with cache:=sto n.cache t a x n.now } else n
abbrev AW:Fct:=⟨[.v (.el .net),.v (.el .str),.v (.el .addr),.v (.el .bd)],[.el .net],λ(x:gj)=>szNet x.1<=10000000000/\szCache x.1.cache<=90000000/\x.2.1.size<=10000000/\szAddr x.2.2.1<=10000000/\Ab x.2.2.2.1<=10000000,λ(x:gj)=>(keepA x.1 x.2.1 x.2.2.1 x.2.2.2.1,())⟩
def AnB:=Apa.a AW<|Fct.o (KP [1,4,6,7,8,9,11] [34]) Apa.2 func58 (by
 rintro⟨(n:P_),(t:ByteArray),(a:HO),(x:M_),_⟩ hp;refine ho (.cl FN (n,()) λz2=>.cl GQ (n.cache,t,a,n.now,()) λz3=>.br (!z3.2.1) (.cl AC (x,()) λz4=>.br (z4.1) (.br (x.status==200) (.cl BA (n.cache,t,a,x,n.now,()) λz5=>.lf AW (⟨z2.1.servers,z5.1,z2.1.log,z2.1.now⟩,())) (.lf AW (z2.1,()))) (.lf AW (z2.1,()))) (.lf AW (z2.1,()))) ?_;repeat' (guard_target =~ Out.holds _ _;first|refine Y ?_|refine Z (λ_=>?_) λ_=>?_|refine Ai ?_ λ_=>?_)
 all_goals (have hn:=Ac AK n.cache.bh;have hc:szCache n.cache=U AK n.cache.bh:=rfl;have hq:x.bm.size<=10000000:=by have hp2:szNet n<=10000000000/\szCache n.cache<=90000000/\t.size<=10000000/\szAddr a<=10000000/\Ab x<=10000000:=hp;simp only[Ab] at hp2;omega)<;>(try simp only[std,Nat.reduceAdd,keepA] at *)<;>(try simp(disch:=omega) only[FS,C_] at *)<;>(try simp(disch:=omega) only[G_,F_])<;>(first|trivial|omega|grind[FS,C_,B_,K_,I_,maxLen,keepA]))
def AoB:=AnB.a AW<|Fct.o (KP [1,4,6,7,8,9,11] [34]) AnB.2 func199 (by
 rintro⟨(n:P_),(t:ByteArray),(a:HO),(x:M_),_⟩ hp;refine ho (.cl FN (n,()) λz2=>.cl GQ (n.cache,t,a,n.now,()) λz3=>.cl AC (x,()) λz4=>.br (z4.1) (.br (x.status==200) (.br (!z3.2.1) (.cl BA (z2.1.cache,t,a,x,n.now,()) λz5=>.lf AW (⟨z2.1.servers,z5.1,z2.1.log,z2.1.now⟩,())) (.lf AW (z2.1,()))) (.lf AW (z2.1,()))) (.lf AW (z2.1,()))) ?_;repeat' (guard_target =~ Out.holds _ _;first|refine Y ?_|refine Z (λ_=>?_) λ_=>?_|refine Ai ?_ λ_=>?_)
 all_goals (have hn:=Ac AK n.cache.bh;have hc:szCache n.cache=U AK n.cache.bh:=rfl;have hq:x.bm.size<=10000000:=by have hp2:szNet n<=10000000000/\szCache n.cache<=90000000/\t.size<=10000000/\szAddr a<=10000000/\Ab x<=10000000:=hp;simp only[Ab] at hp2;omega)<;>(try simp only[std,Nat.reduceAdd,keepA] at *)<;>(try simp(disch:=omega) only[FS,C_] at *)<;>(try simp(disch:=omega) only[G_,F_])<;>(first|trivial|omega|grind[FS,C_,B_,K_,I_,maxLen,keepA]))
def logS (n:P_) (t:ByteArray) (a:HO) (g:Bool):P_:=if n.log.length<400 then{ n with log:=n.log++[⟨t,a,g⟩]} else n
def fetchNo (n:P_) (t:ByteArray) (a:HO) (g:Bool):P_×M_ :=
 if(isName a.host&&isName a.path)=false then(n,notF)
 else if(lookUp n.cache t a n.now).isSome then(n,(lookUp n.cache t a n.now).getD notF)
 else(if g then logS n t a g else keepA (logS n t a g) t a (answerTo n.servers a),answerTo n.servers a)
def Kb (l:List V_) (a:HO):Ab (answerTo l a)<=U Af l:=by
 unfold answerTo;split
 .exact Nat.zero_le _
 split
 .exact Nat.zero_le _
 .rename_i h1 h2;have h3:=BU (λs:V_=>decide (s.host=a.host)) l 0 O;have h4:=Cy Af (l:=l) (i:=(fidx (λs=>decide (s.host=a.host)) l 0).toNat) O;have h5:=BU (λf:aF=>decide (f.path=a.path)) (l.getD (fidx (λs=>decide (s.host=a.host)) l 0).toNat default).files 0 O;have h6:=Cy Ha (l:=(l.getD (fidx (λs=>decide (s.host=a.host)) l 0).toNat default).files) (i:=(fidx (λf:aF=>decide (f.path=a.path)) (l.getD (fidx (λs=>decide (s.host=a.host)) l 0).toNat default).files 0).toNat) O;simp only[Af,Ha] at h4 h6;omega
abbrev AP:Fct:=⟨[.v (.el .net),.v (.el .str),.v (.el .addr),.v (.el .bool)],[.el .net,.el .bd],λ(x:gk)=>szNet x.1<=9000000000/\szCache x.1.cache<=90000000/\U Af x.1.servers<=10000000/\x.2.1.size<=10000000/\szAddr x.2.2.1<=10000000,λ(x:gk)=>((fetchNo x.1 x.2.1 x.2.2.1 x.2.2.2.1).1,(fetchNo x.1 x.2.1 x.2.2.1 x.2.2.2.1).2,())⟩
end Go.Proofs.YtfklkhgmgglloaaGreatDoor.fnRightUses
