/-
  Contracts of functions that the law of FnThrifty reaches, part 1.
-/
import Derived.Test.YthpiiodbmkjmjaaGreatDoorVMe
import Derived.WalkKit
import Derived.BigGuard
import Derived.Deep.QuietTactic
import Derived.BigQuiet
import Derived.Lib.ConvBytes
import Derived.Sort.WalkC
import Derived.Handy
import Derived.Lib.Overlaps
import Derived.Lib.AppendZerosOnto
import Derived.Laws.Externs
import Derived.Shelf.RegionOpenPlain
import Derived.Defers
import Derived.Laws.Pointers
import Derived.Laws.LoneSync
import Derived.RegionCalls
import Derived.ChangeAlike
import Derived.LoopN
import Derived.Lib.SliceRun
import Derived.Shelf.Strconv.AtoiAll
import Derived.Shelf.Small.Strs
import Derived.Test.YthpiiodbmkjmjaaGreatDoorRows
import Derived.Test.YthpiiodbmkjmjaaGreatDoorCards
import Derived.LaidMore
import Derived.Lay
import Derived.SevenTiedAt
import Derived.ProofKit
import Derived.OpenShut
namespace Go.Proofs.YthpiiodbmkjmjaaGreatDoor.fnThrifty
open Go.Proofs.YthpiiodbmkjmjaaGreatDoor
open Go.D Go.Proofs.Tryz
set_option maxRecDepth 100000
set_option maxHeartbeats 2000000
set_option linter.defProp false
set_option linter.unusedVariables false
set_option linter.unusedSimpArgs false
def tyOf:TypeId->Option Ty
 | 3=>some .int
 | 4=>some .bool
 | 5=>some .u8
 | 9=>some .str
 | 27=>some .cache
 | 30=>some .net
 | 32=>some .addr
 | 35=>some .bj
 | 37=>some .tokenizer
 | 42=>some .ba
 | 47=>some .page
 | 51=>some .loader
 | 80=>some .bd
 | 82=>some .conn
 | 88=>some .request
 | 127=>some .guess
 | 156=>some .sent
 | 173=>some .token
 | 178=>some .slot
 | 181=>some .module
 | 216=>some .entry
 | 234=>some .server
 | 236=>some .file
 | 250=>some .attr
 | 253=>some .node
 | 326=>some .line
 | 352=>some .sheet
 | 370=>some .rule
 | _=>none
abbrev Eo:={ E:D.Env // EOk Tryz.prog E }
def Eo.a (e:Eo) (S:Fct) {f:Nat} (k:S.ok Tryz.prog f):Eo:=⟨e.1.add f S,e.2.add k⟩
def Eo.G (e:Eo) (S:GS) {f:Nat} (k:S.ok Tryz.prog f):Eo:=⟨e.1.addG f S,e.2.addG k⟩
def Eo.X (e:Eo) (S:Xct) {f:Nat} (k:S.ok Tryz.prog f):Eo:=⟨e.1.addX f S,e.2.addX k⟩
def Eo.N (e:Eo) {f:Nat} (k:UB Tryz.prog f):Eo:=⟨e.1.addN f,e.2.addN k⟩
abbrev ey:=List V_×Unit
abbrev ah:=Int×Int×Unit
abbrev dq:=Int×D_×Unit
abbrev B_:=Int×Unit
abbrev aK:=D_×Unit
abbrev fy:=List V_×Int×Unit
abbrev ei:=Int×List V_×Unit
abbrev aP:=R_×Unit
abbrev gA:=List V_×D_×R_×Bool×Unit
abbrev fg:=List D_×D_×Unit
abbrev fF:=List ar×List D_×Unit
abbrev cP:=List ar×Int×Unit
abbrev dy:=List ByteArray×ByteArray×Unit
abbrev ak:=C_×Unit
abbrev fG:=C_×List ar×Unit
abbrev eF:=Int×Int×C_×Unit
abbrev dz:=List au×Unit
abbrev aD:=N_×Unit
abbrev bA:=Int×Int×N_×Unit
abbrev cQ:=List ao×Int×Unit
abbrev eG:=af×Int×af×af×Unit
abbrev eH:=af×Int×af×Unit
abbrev bO:=aN×Unit
abbrev aO:=C_×D_×Unit
abbrev eI:=Int×C_×D_×Unit
abbrev fH:=List V_×Int×Int×Unit
abbrev W_:=List Int×Unit
abbrev eJ:=Int×List Int×Unit
abbrev eK:=Int×Int×List Int×Unit
abbrev fI:=ByteArray×List Int×Unit
abbrev dA:=List ByteArray×Int×Int×Unit
abbrev fJ:=Bool×Int×List ByteArray×Int×Int×Unit
abbrev an:=List Int×Int×Unit
abbrev eL:=List ByteArray×Int×Int×List Int×Unit
abbrev K_:=ByteArray×Unit
abbrev bP:=List ByteArray×Unit
abbrev fK:=aN×Int×ByteArray×Unit
abbrev eM:=ar×Unit
abbrev fL:=aN×ar×Unit
abbrev bX:=List ax×Unit
abbrev eN:=List ax×Int×Unit
abbrev cz:=bv×Unit
abbrev bJ:=az×Unit
abbrev fM:=List ax×ByteArray×Unit
abbrev eO:=ax×ByteArray×Unit
abbrev dx:=Int×ax×Unit
abbrev fN:=List ax×D_×Unit
abbrev fO:=bv×ByteArray×D_×Unit
abbrev fP:=Int×bv×D_×Unit
abbrev fQ:=bU×ByteArray×D_×Unit
abbrev fR:=bv×ByteArray×D_×Int×Unit
abbrev fS:=Int×bv×D_×R_×Unit
abbrev fT:=bU×ByteArray×D_×Int×Unit
abbrev ai:=ByteArray×Int×Unit
abbrev T_:=Unit×Unit
abbrev bz:=Unit×Int×Unit
abbrev am:=Bool×Unit
abbrev eE:=Unit×List ByteArray×Unit
abbrev fU:=ByteArray×List ByteArray×Unit
abbrev eP:=List ByteArray×Int×List ByteArray×Unit
abbrev eQ:=R_×R_×Unit
abbrev eR:=List au×D_×Unit
abbrev fV:=List au×D_×R_×Unit
abbrev dB:=Int×bv×Unit
abbrev fW:=bv×ByteArray×D_×R_×Int×Unit
abbrev fX:=az×ByteArray×D_×R_×Unit
abbrev fY:=az×ByteArray×D_×Bool×Unit
abbrev fZ:=az×D_×List Int×Unit
abbrev cA:=ByteArray×ByteArray×Unit
abbrev eS:=aN×ar×R_×Unit
abbrev bH:=C_×Int×Unit
abbrev eT:=D_×Int×D_×Unit
abbrev ga:=List cf×ByteArray×Unit
abbrev gd:=ao×ByteArray×Unit
abbrev gf:=List ao×ByteArray×Unit
abbrev eU:=List D_×Int×C_×List ar×Unit
abbrev cR:=Int×N_×N_×N_×List D_×Unit
abbrev cG:=ao×Int×ao×List ByteArray×Unit
abbrev gg:=dv×ByteArray×Unit
abbrev eV:=List ao×ByteArray×dv×Unit
abbrev cS:=C_×ByteArray×Unit
abbrev dC:=af×Int×Unit
abbrev gh:=ByteArray×Int×af×Unit
abbrev eW:=af×ByteArray×Unit
abbrev gi:=Int×Int×af×Unit
abbrev gj:=List bu×ByteArray×Unit
abbrev eX:=Int×bI×List ByteArray×Unit
abbrev cT:=List bI×Int×List ByteArray×Unit
abbrev gk:=af×List bu×bI×Unit
abbrev gm:=af×List bu×List bI×Unit
abbrev cU:=af×ByteArray×List ByteArray×Int×af×Unit
abbrev cV:=bu×Int×bu×List ByteArray×Unit
abbrev bY:=List Int×Int×C_×Unit
abbrev gn:=aN×ByteArray×Unit
abbrev eY:=List bu×Int×C_×Unit
abbrev gp:=C_×ByteArray×Bool×Unit
abbrev eZ:=C_×Int×C_×List ByteArray×Unit
abbrev e6:=Int×af×af×Unit
abbrev e7:=af×Int×af×ao×af×Unit
abbrev gq:=C_×Int×ByteArray×ByteArray×Int×Unit
abbrev fm:=C_×Int×R_×Unit
abbrev ck:=Int×C_×D_×C_×C_×Unit
abbrev fp:=List Y_×Int×List Y_×Unit
abbrev fq:=C_×ao×Int×Unit
abbrev dM:=List D_×ByteArray×Unit
abbrev bV:=List D_×List D_
abbrev dh:=C_×D_×List D_×List D_×Unit
abbrev dN:=List D_×List D_×Int×C_×D_×List D_×Unit
abbrev av:=Int×C_×List D_×Unit
abbrev bw:=C_×Int×C_×List D_×Unit
abbrev dO:=C_×Int×List ByteArray×List D_×C_×Unit
abbrev cm:=C_×Int×C_×Unit
abbrev dP:=Int×bI×Unit
abbrev dQ:=List ByteArray×List D_×Unit
abbrev dR:=Int×List D_×List D_×C_×D_×List D_×Unit
abbrev dS:=ByteArray×List ao×dv×Unit
abbrev ft:=C_×List bI×Bool×Unit
abbrev dU:=List bu×Int×Unit
abbrev dV:=Int×C_×List ByteArray×Unit
abbrev cK:=C_×D_×R_×Unit
abbrev cn:=C_×Int×C_×D_×R_×C_×Unit
abbrev aG:=List ar×Int×C_×List Int×Unit
abbrev dW:=List D_×Int×Unit
abbrev dX:=List D_×Int×N_×N_×N_×Unit
abbrev cg:=N_×Int×Unit
abbrev dY:=Int×N_×N_×V_×List ar×Unit
abbrev dZ:=N_×Int×N_×N_×Unit
abbrev dF:=N_×N_×Unit
abbrev ch:=Int×N_×N_×Unit
abbrev de:=N_×List Int×Unit
abbrev aq:=N_×Int×N_×Unit
abbrev dG:=Int×Int×ax×Unit
abbrev fk:=List ax×D_×R_×Unit
abbrev aA:=List ax×Bool×Unit
abbrev dH:=List ax×Int×List ByteArray×Unit
abbrev dI:=List ax×Int×List ByteArray×List ByteArray×Unit
abbrev ci:=bv×Int×bv×Unit
abbrev cj:=az×Int×az×Unit
abbrev dJ:=az×az×Unit
abbrev dK:=az×Int×List ByteArray×az×Unit
abbrev ew:=az×D_×Unit
abbrev dL:=N_×Int×az×List Int×Unit
def E0:Eo:=⟨D.Env.empty tyOf,EOk.empty _ _⟩
def countGuess:List V_->Nat
 | []=>0
 | c::l=>countGuess l+(if c.guess then 1 else 0)
def Pf (l:List V_) (c:V_):countGuess (l++[c])=countGuess l+(if c.guess then 1 else 0):=by
 induction l with
 | nil=>simp[countGuess]
 | cons d l ih=>simp only[dp,countGuess,ih];omega
def IF (l:List V_):countGuess l<=l.length:=by
 induction l with
 | nil=>simp[countGuess]
 | cons d l ih=>simp only[countGuess,aw];split<;>omega
abbrev NX:Fct:=⟨[.v (.sl .conn)],[.el .int],λ(x:ey)=>x.1.length<=1048576,λ(x:ey)=>((countGuess x.1:Int),())⟩
abbrev BM (l:(List V_)):LInv:=⟨[⟨.s,3,true,.el .int⟩,⟨.s,4,true,.el .int⟩],λ_ (x:ah)=>0<=x.2.1/\x.2.1<=l.length/\0<=x.1/\x.1<=x.2.1/\x.1+countGuess (l.drop x.2.1.toNat)=countGuess l,λ(x:ah)=>l.length-x.2.1.toNat⟩
def E1:=E0.a NX<|Fct.p (KP [0,2,3,4] [8,15]) (λ⟨l,_⟩=>lv [(3,BM l)]) E0.2 func74 (by
 rintro⟨(l:List V_),_⟩ hp;exact hg (.lq (Int×Int×PUnit) (BM l).inv (BM l).m ((0:Int),((0:Int),())) λy1 bk1=>.br (decide (y1.2.1<(l.length:Int))) (.ob (inB y1.2.1 l.length)<|.br ((l.getD y1.2.1.toNat default).guess) (.re (l)<|.re (Value.int IntKind.i64 (0:Int))<|.bk (bk1 (w1 y1.1,(w1 y1.2.1,())))) (.re (l)<|.re (Value.int IntKind.i64 (0:Int))<|.bk (bk1 (y1.1,(w1 y1.2.1,()))))) (.lf NX (y1.1,()))) (an_ @countGuess.eq_1<|@countGuess.eq_2))
abbrev BN (l:(List V_)):LInv:=⟨[⟨.s,3,true,.el .int⟩,⟨.s,8,true,.el .int⟩],λ_ (x:ah)=>0<=x.2.1/\x.2.1<=l.length/\0<=x.1/\x.1<=x.2.1/\x.1+countGuess (l.drop x.2.1.toNat)=countGuess l,λ(x:ah)=>l.length-x.2.1.toNat⟩
def E2:=E1.a NX<|Fct.p (KP [0,2,3,5,6,7,8] [9,13]) (λ⟨l,_⟩=>lv [(3,BN l)]) E1.2 func49 (by
 rintro⟨(l:List V_),_⟩ hp;exact hg (.lq (Int×Int×PUnit) (BN l).inv (BN l).m ((0:Int),((0:Int),())) λy1 bk1=>.br (decide (y1.2.1<(l.length:Int))) (.ob (inB y1.2.1 l.length)<|.br ((l.getD y1.2.1.toNat default).guess) (.re (l)<|.re (Value.int IntKind.i64 (0:Int))<|.re (l)<|.re (Value.int IntKind.i64 (l.length:Int))<|.bk (bk1 (w1 y1.1,(w1 y1.2.1,())))) (.re (l)<|.re (Value.int IntKind.i64 (0:Int))<|.re (l)<|.re (Value.int IntKind.i64 (l.length:Int))<|.bk (bk1 (y1.1,(w1 y1.2.1,()))))) (.lf NX (y1.1,()))) (an_ @countGuess.eq_1<|@countGuess.eq_2))
def findConn (a:D_):List V_->Int->Int
 | [],_=>-1
 | c::l,i=>if c.to=a then i else findConn a l (i+1)
def I4 {a:D_} {l:List V_} {i:Nat} {z:Int} (h:i<l.length):findConn a (l.drop i) z=if(l.getD i default).to=a then z else findConn a (l.drop (i+1)) (z+1):=by rw[HO h];rfl
def MR {a:D_} {l:List V_} {i:Nat} {z:Int} (h:l.length<=i):findConn a (l.drop i) z = -1:=by rw[bR h];rfl
def TP (x y:D_):(x.host==y.host&&(x.path==y.path&&true))=decide (x=y):=Ev x y
abbrev QE:Fct:=⟨[aL .conn,aE .addr],[rI],λ(x:List V_×D_×Unit)=>x.1.length<=1048576,λx=>(findConn x.2.1 x.1 0,())⟩
abbrev Lfind (l:List V_) (a:D_):LInv:=⟨[⟨.s,5,true,.el .int⟩,⟨.b,3,true,.el .addr⟩],λ_ (x:dq)=>0<=x.1/\x.1<=l.length/\x.2.1=a/\findConn a l 0=findConn a (l.drop x.1.toNat) x.1,λ(x:dq)=>l.length-x.1.toNat⟩
def E3:=E2.a QE<|Fct.p (KP [0,3,4,5] [9,18]) (λ⟨l,a,_⟩=>lv [(2,Lfind l a)]) E2.2 func77 (by
 rintro⟨(l:List V_),(a:D_),_⟩ hp;refine ho (lpx (Lfind l a) ((0:Int),(a,())) λ(y1:dq) bk1=>.br (decide (y1.1<(l.length:Int))) (.ob (inB y1.1 l.length)<|.br ((l.getD y1.1.toNat default).to.host==y1.2.1.host&&((l.getD y1.1.toNat default).to.path==y1.2.1.path&&true)) (.lf QE (y1.1,())) (.ob (l=l)<|.ob (bk1 (w1 y1.1,(y1.2.1,())))<|.ok)) (.lf QE ((-1:Int),()))) ?_;refine Am ?_ λ(y1:dq) i1=>Aa (λh2=>Ab ?_ λ_=>Aa (λh4=>lfY ?_) λh4=>Ab rfl λ_=>Ab ?_ λ_=>trivial) (λh2=>lfY ?_)<;>(try simp only[Lfind,std,Nat.reduceAdd] at *)<;>(try simp only[TP,aH,ca] at *)
 ·first|omega|exact⟨o_,o_,by simp⟩
 ·omega
 ·rw[I4 o_,I_ (h4.trans i1.2.2.1)] at i1;exact i1.2.2.2.symm
 ·rw[I4 o_,J_ λh=>h4 (h.trans i1.2.2.1.symm)] at i1;have hn:l.length<=1048576:=hp;rw[Ah o_,A_ o_];exact⟨⟨o_,o_,i1.2.2.1,i1.2.2.2⟩,o_⟩
 ·rw[MR o_] at i1;exact i1.2.2.2.symm)
abbrev Aaa:Fct:=⟨[aE .conn,.p (.el .addr)],[rB],λ_=>True,λx=>(decide (x.1.to=x.2.1),())⟩
def E4:=E3.a Aaa<|Fct.o [1,2,3] E3.2 func140 (by
 rintro⟨(c:V_),(a:D_),_⟩ hp;refine ho (.lf Aaa (c.to.host==a.host&&(c.to.path==a.path&&true),())) ?_;refine lfY ?_;show(_,())=(_,());rw[TP])
abbrev Nl:Fct:=⟨[aL .conn,.c 140 [.el .addr]],[rI],λ(x:List V_×(D_×Unit)×Unit)=>x.1.length<=1048576,λx=>(findConn x.2.1.1 x.1 0,())⟩
abbrev Lidx (l:List V_) (F:List V_->Int->Int):LInv:=⟨[⟨.s,8,true,.el .int⟩],λ_ (x:B_)=>0<=x.1/\x.1<=l.length/\F l 0=F (l.drop x.1.toNat) x.1,λ(x:B_)=>l.length-x.1.toNat⟩
abbrev Lidxf (l:List V_) (a:aK):LInv:=Lidx l (findConn a.1)
def E5:=E4.a Nl<|Fct.p (KP [0,1,4,5,7,8] [9,16]) (λ⟨l,a,_⟩=>lv [(2,Lidxf l a)]) E4.2 func139 (by
 rintro⟨(l:List V_),(a:aK),_⟩ hp;refine ho (lpx (Lidxf l a) ((0:Int),()) λ(y1:B_) bk1=>.br (decide (y1.1<(l.length:Int))) (.ob (inB y1.1 l.length)<|.cl Aaa (l.getD y1.1.toNat default,a.1,()) λz2=>.br (z2.1) (.lf Nl (y1.1,())) (.ob (l=l)<|.ob (enc Ty.addr a.1=enc Ty.addr a.1)<|.ob (Value.int IntKind.i64 (l.length:Int)=Value.int IntKind.i64 (l.length:Int))<|.ob (bk1 (w1 y1.1,()))<|.ok)) (.lf Nl ((-1:Int),()))) ?_;refine Am ?_ λ(y1:B_) i1=>Aa (λh2=>Ab ?_ λ_=>Ae trivial λ_=>Aa (λh4=>lfY ?_) λh4=>Ab rfl λ_=>Ab rfl λ_=>Ab rfl λ_=>Ab ?_ λ_=>trivial) (λh2=>lfY ?_)<;>(try simp only[Lidxf,std,Nat.reduceAdd] at *)<;>(try simp only[TP,aH,ca] at *)
 ·first|omega|exact⟨o_,o_,by simp⟩
 ·omega
 ·rw[I4 o_,I_ h4] at i1;exact i1.2.2.symm
 ·rw[I4 o_,J_ h4] at i1;have hn:l.length<=1048576:=hp;rw[Ah o_,A_ o_];exact⟨⟨o_,o_,i1.2.2⟩,o_⟩
 ·rw[MR o_] at i1;exact i1.2.2.symm)
def E6:=E5.a QE<|Fct.o [0,3,4] E5.2 func52 (by
 rintro⟨(l:List V_),(a:D_),_⟩ hp;refine ho (.cl Nl (l,(a,()),()) λ(z2:B_)=>.lf QE (z2.1,())) ?_;refine Ae ?_ λ_=>(lfY ?_)<;>(try simp only[std,Nat.reduceAdd] at *)<;>(first|trivial|omega|(simp_all;done)|(simp_all;omega)|grind))
def firstDone:List V_->Int->Int
 | [],_=>-1
 | c::l,i=>if c.left<=0 then i else firstDone l (i+1)
def H1 {l:List V_} {i:Nat} {z:Int} (h:i<l.length):firstDone (l.drop i) z=if(l.getD i default).left<=0 then z else firstDone (l.drop (i+1)) (z+1):=by rw[HO h];rfl
def LF {l:List V_} {i:Nat} {z:Int} (h:l.length<=i):firstDone (l.drop i) z = -1:=by rw[bR h];rfl
abbrev O3:Fct:=⟨[aL .conn],[rI],λ(x:ey)=>x.1.length<=1048576,λx=>(firstDone x.1 0,())⟩
abbrev Lfirst (l:List V_):LInv:=⟨[⟨.s,3,true,.el .int⟩],λ_ (x:B_)=>0<=x.1/\x.1<=l.length/\firstDone l 0=firstDone (l.drop x.1.toNat) x.1,λ(x:B_)=>l.length-x.1.toNat⟩
def E7:=E6.a O3<|Fct.p (KP [0,2,3] [7,15]) (λ⟨l,_⟩=>lv [(2,Lfirst l)]) E6.2 func80 (by
 rintro⟨(l:List V_),_⟩ hp;refine ho (lpx (Lfirst l) ((0:Int),()) λ(y1:B_) bk1=>.br (decide (y1.1<(l.length:Int))) (.ob (inB y1.1 l.length)<|.br (decide ((l.getD y1.1.toNat default).left<=0)) (.lf O3 (y1.1,())) (.ob (l=l)<|.ob (bk1 (w1 y1.1,()))<|.ok)) (.lf O3 ((-1:Int),()))) ?_;refine Am ?_ λ(y1:B_) i1=>Aa (λh2=>Ab ?_ λ_=>Aa (λh4=>lfY ?_) λh4=>Ab rfl λ_=>Ab ?_ λ_=>trivial) (λh2=>lfY ?_)<;>(try simp only[Lfirst,std,Nat.reduceAdd] at *)<;>(try simp only[TP,aH,ca] at *)
 ·first|omega|exact⟨o_,o_,by simp⟩
 ·omega
 ·rw[H1 o_,I_ h4] at i1;exact i1.2.2.symm
 ·rw[H1 o_,J_ o_] at i1;have hn:l.length<=1048576:=hp;rw[Ah o_,A_ o_];exact⟨⟨o_,o_,i1.2.2⟩,o_⟩
 ·rw[LF o_] at i1;exact i1.2.2.symm)
abbrev UU:Fct:=⟨[aE .conn],[rB],λ_=>True,λx=>(decide (x.1.left<=0),())⟩
def E8:=E7.a UU<|Fct.o [1,2] E7.2 func141 (by
 rintro⟨(c:V_),_⟩ hp;refine ho (.lf UU (decide (c.left<=0),())) ?_;refine lfY ?_;all_goals try simp only[std,Nat.reduceAdd] at *
 all_goals first|trivial|omega|(simp_all;done)|(simp_all;omega)|grind)
abbrev LB:Fct:=⟨[aL .conn,.c 141 []],[rI],λ(x:List V_×Unit×Unit)=>x.1.length<=1048576,λx=>(firstDone x.1 0,())⟩
def E9:=E8.a LB<|Fct.p (KP [0,1,4,5,7,8] [9,16]) (λ⟨l,u,_⟩=>lv [(2,Lidx l firstDone)]) E8.2 func139 (by
 rintro⟨(l:List V_),(u:PUnit),_⟩ hp;refine ho (lpx (Lidx l firstDone) ((0:Int),()) λ(y1:B_) bk1=>.br (decide (y1.1<(l.length:Int))) (.ob (inB y1.1 l.length)<|.cl UU (l.getD y1.1.toNat default,()) λz2=>.br (z2.1) (.lf LB (y1.1,())) (.ob (l=l)<|.ob (Value.int IntKind.i64 (l.length:Int)=Value.int IntKind.i64 (l.length:Int))<|.ob (bk1 (w1 y1.1,()))<|.ok)) (.lf LB ((-1:Int),()))) ?_;refine Am ?_ λ(y1:B_) i1=>Aa (λh2=>Ab ?_ λ_=>Ae trivial λ_=>Aa (λh4=>lfY ?_) λh4=>Ab rfl λ_=>Ab rfl λ_=>Ab ?_ λ_=>trivial) (λh2=>lfY ?_)<;>(try simp only[Lidx,std,Nat.reduceAdd] at *)<;>(try simp only[TP,aH,ca] at *)
 ·first|omega|exact⟨o_,o_,by simp⟩
 ·omega
 ·rw[H1 o_,I_ h4] at i1;exact i1.2.2.symm
 ·rw[H1 o_,J_ o_] at i1;have hn:l.length<=1048576:=hp;rw[Ah o_,A_ o_];exact⟨⟨o_,o_,i1.2.2⟩,o_⟩
 ·rw[LF o_] at i1;exact i1.2.2.symm)
def E10:=E9.a O3<|Fct.o [0,2] E9.2 func55 (by
 rintro⟨(l:List V_),_⟩ hp;refine ho (.cl LB (l,(),()) λ(z2:B_)=>.lf O3 (z2.1,())) ?_;refine Ae ?_ λ_=>(lfY ?_)<;>(try simp only[std,Nat.reduceAdd] at *)<;>(first|trivial|omega|(simp_all;done)|(simp_all;omega)|grind))
def inRange (n lo hi:Int):Bool:=decide (lo<=n)&&decide (n<=hi)
abbrev Au:Fct:=⟨[aI,aI,aI],[rB],λ_=>True,λ(x:Int×Int×Int×Unit)=>(inRange x.1 x.2.1 x.2.2.1,())⟩
def E11:=E10.a Au<|Fct.o [0,1,2,6] E10.2 func53 (by
 rintro⟨(n:Int),(lo:Int),(hi:Int),_⟩ hp;refine ho (.br (decide (lo<=n)) (.lf Au (decide (n<=hi),())) (.lf Au (false,()))) ?_;refine Aa (λh1=>lfY ?_) λh1=>lfY ?_;all_goals try simp only[std,Nat.reduceAdd,inRange] at *
 all_goals first|trivial|(simp_all;done)|(simp_all;omega)|grind)
def E12:=E11.a Au<|Fct.o [0,1,2,6] E11.2 func78 (by
 rintro⟨(n:Int),(lo:Int),(hi:Int),_⟩ hp;refine ho (.br (decide (n>=lo)) (.lf Au (decide (n<=hi),())) (.lf Au (false,()))) ?_;refine Aa (λh1=>lfY ?_) λh1=>lfY ?_;all_goals try simp only[std,Nat.reduceAdd,inRange] at *
 all_goals first|trivial|(simp_all;done)|(simp_all;omega)|grind)
abbrev Aha:Fct:=⟨[aI,aI],[rI],λ_=>True,λ(x:ah)=>(max x.1 x.2.1,())⟩
def E13:=E12.a Aha<|Fct.o (KP [0,1,4] [7]) E12.2 func168 (by
 rintro⟨(a:Int),(b:Int),_⟩ hp;refine ho (.br (decide (b>a)) (.lf Aha (b,())) (.lf Aha (a,()))) ?_;refine Aa (λh1=>lfY ?_) λh1=>lfY ?_;all_goals try simp only[std,Nat.reduceAdd] at *
 all_goals first|trivial|omega|(simp_all;done)|(simp_all;omega)|grind)
abbrev Hr:Fct:=⟨[aL .conn],[rL .conn],λ(x:ey)=>x.1.length<=1048576,λ(x:ey)=>(x.1,())⟩
def E14:=E13.a Hr<|Fct.o [0,2] E13.2 func113 (by
 rintro⟨(l:List V_),_⟩ hp;refine ho (.ap (0+List.length l) 112<|.lf Hr ([]++l,())) ?_;refine Ed ?_ λ_=>lfY ?_<;>(try simp only[std,Nat.reduceAdd] at *)<;>(first|trivial|omega|(simp_all;done)|(simp_all;omega)|grind))
def moveOne (b:Int) (c:V_):V_:={ c with left:=max 0 (IntKind.i64.wrap (c.left-b))}
def moveConns (l:List V_) (b:Int):List V_:=if inRange b 0 1000 then l.map (moveOne b) else l
abbrev TN:Fct:=⟨[aL .conn,aI],[rL .conn],λ(x:fy)=>x.1.length<=1048576,λ(x:fy)=>(moveConns x.1 x.2.1,())⟩
abbrev L45 (l:List V_) (b:Int):LInv:=⟨[⟨.s,6,true,.el .int⟩,⟨.s,5,true,.sl .conn⟩],λ_ (x:ei)=>0<=x.1/\x.1<=l.length/\x.2.1=moveConns (l.take x.1.toNat) b++l.drop x.1.toNat,λ(x:ei)=>l.length-x.1.toNat⟩
def Cb (l:List V_) (b:Int):(moveConns l b).length=l.length:=by unfold moveConns;split<;>simp
def Lt (b:Int):moveConns [] b=[]:=by unfold moveConns;split<;>rfl
def Kr {l:List V_} {b:Int} {i:Nat} (hb:inRange b 0 1000=true) (h:i<l.length) {g:V_->V_} (hg:g (l.getD i default)=moveOne b (l.getD i default)):(moveConns (l.take i) b++l.drop i).modify i g=moveConns (l.take (i+1)) b++l.drop (i+1):=by
 rw[HO h,WO (by rw[Cb,bS];omega),S_ h];simp only[moveConns,hb,aS,List.map_append,bZ,List.map_nil,bB,dp,fi,hg]
def QC {l:List V_} {b:Int} {i:Nat} (hb:inRange b 0 1000=false):moveConns (l.take i) b++l.drop i=moveConns l b:=by
 simp[moveConns,hb]
def E15:=E14.a TN<|Fct.p (KP [0,1,4,5,6] [17]) (λ⟨l,b,_⟩=>lv [(3,L45 l b)]) E14.2 func79 (by
 rintro⟨(l:List V_),(b:Int),_⟩ hp;refine ho (.ob (True)<|.ob (IA (0+l.length) 112)<|lpx (L45 l b) ((0:Int),([]++l,())) λ(y2:ei) bk2=>.br (decide (y2.1<(l.length:Int))) (.cl Au (b,(0:Int),(1000:Int),()) λz2=>.br (z2.1) (.ob (inB y2.1 l.length)<|.cl Aha ((0:Int),wr ((l.getD y2.1.toNat default).left-b),()) λ(z3:B_)=>.ob (inB y2.1 y2.2.1.length)<|.ob (y2.1.toNat<y2.2.1.length)<|.lt (List V_) (y2.2.1.modify y2.1.toNat λz=>(⟨z.to,z3.1,z.guess,z.bd⟩:V_)) λz4=>.ob (l=l)<|.ob (Value.int IntKind.i64 b=Value.int IntKind.i64 b)<|.ob (bk2 (w1 y2.1,(z4,())))<|.ok) (.lf TN (y2.2.1,()))) (.lf TN (y2.2.1,()))) ?_;refine Ab trivial λ_=>Ab ?_ λ_=>Am ?_ λ(y2:ei) i2=>Aa (λh3=>Ae trivial λ_=>Aa (λh4=>Ab ?_ λ_=>Ae trivial λ_=>Ab ?_ λ_=>Ab ?_ λ_=>DS (Ab rfl λ_=>Ab rfl λ_=>Ab ?_ λ_=>trivial)) λh4=>lfY ?_) (λh3=>lfY ?_)<;>(try simp only[L45,std,Nat.reduceAdd] at *)<;>(try have hln:y2.2.1.length=l.length:=by rw[i2.2.2,al,Cb,bS,dn];omega)
 ·omega
 ·exact⟨o_,o_,by simp[Lt]⟩
 ·omega
 ·omega
 ·omega
 ·rw[Ah o_,A_ o_,i2.2.2,Kr h4 o_ (by simp[moveOne,Aha])];exact⟨⟨o_,o_,rfl⟩,o_⟩
 ·rw[i2.2.2,QC h4]
 ·rw[i2.2.2,ct o_,bR o_,cF])
abbrev L46 (l:List V_) (b:Int):LInv:=⟨[⟨.s,15,true,.el .int⟩,⟨.s,5,true,.sl .conn⟩],λ_ (x:ei)=>0<=x.1/\x.1<=l.length/\x.2.1=moveConns (l.take x.1.toNat) b++l.drop x.1.toNat,λ(x:ei)=>l.length-x.1.toNat⟩
def E16:=E15.a TN<|Fct.p (KP [0,1,4,5,6,14,15] [11,16]) (λ⟨l,b,_⟩=>lv [(5,L46 l b)]) E15.2 func54 (by
 rintro⟨(l:List V_),(b:Int),_⟩ hp;refine ho (.cl Hr (l,()) λz2=>.cl Au (b,(0:Int),(1000:Int),()) λz3=>.br (!z3.1) (.lf TN (z2.1,())) (lpx (L46 l b) ((0:Int),(z2.1,())) λ(y3:ei) bk3=>.br (decide (y3.1<(z2.1.length:Int))) (.ob (inB y3.1 y3.2.1.length)<|.ob (y3.1.toNat<y3.2.1.length)<|.ob (inB y3.1 y3.2.1.length)<|.ob (y3.1.toNat<y3.2.1.length)<|.lt (List V_) (y3.2.1.modify y3.1.toNat λz=>(⟨z.to,if wr ((y3.2.1.getD y3.1.toNat default).left-b)>0 then wr ((y3.2.1.getD y3.1.toNat default).left-b) else(0:Int),z.guess,z.bd⟩:V_)) λz4=>.ob (l=l)<|.ob (Value.int IntKind.i64 b=Value.int IntKind.i64 b)<|.ob (Value.int IntKind.i64 (z2.1.length:Int)=Value.int IntKind.i64 (z2.1.length:Int))<|.ob (bk3 (w1 y3.1,(z4,())))<|.ok) (.lf TN (y3.2.1,())))) ?_;refine Ae ?_ λ_=>(Ae trivial λ_=>Aa (λh2=>lfY ?_) λh2=>Am ?_ λ(y3:ei) i3=>Aa (λh4=>Ab ?_ λ_=>Ab ?_ λ_=>Ab ?_ λ_=>Ab ?_ λ_=>DS (Ab rfl λ_=>Ab rfl λ_=>Ab rfl λ_=>Ab ?_ λ_=>trivial)) λh4=>lfY ?_)<;>(try simp only[Kj] at *)<;>(try simp only[L46,std,Nat.reduceAdd] at *)<;>(try have hln:y3.2.1.length=l.length:=by rw[i3.2.2,al,Cb,bS,dn];omega)
 ·omega
 ·rw[moveConns,h2];rfl
 ·exact⟨o_,o_,by simp[Lt]⟩
 ·omega
 ·omega
 ·omega
 ·omega
 ·rw[Ah o_,A_ o_];refine⟨⟨o_,o_,?_⟩,o_⟩;have hA:(moveConns (l.take y3.1.toNat) b).length=y3.1.toNat:=by rw[Cb,bS];omega
  have hget:y3.2.1.getD y3.1.toNat default=l.getD y3.1.toNat default:=by rw[i3.2.2,HO (i:=y3.1.toNat) o_,getD_at hA]
  rw[hget,i3.2.2,Kr h2 o_];simp only[moveOne];congr 1;split<;>omega
 ·rw[i3.2.2,ct o_,bR o_,cF])
def sizeResponse (x:R_):Int:=x.body.size+20
abbrev BS:Fct:=⟨[aE .bd],[rI],λ(x:aP)=>x.1.body.size<=1000000000000,λ(x:aP)=>(sizeResponse x.1,())⟩
def E17:=E16.a BS<|Fct.o [1,2] E16.2 func105 (by
 rintro⟨(x:R_),_⟩ hp;refine ho (.lf BS (wr ((x.body.size:Int)+20),())) ?_;refine lfY ?_;all_goals try simp only[std,Nat.reduceAdd,sizeResponse] at *
 rw[Ah o_])
def E18:=E17.a BS<|Fct.o [1,2] E17.2 func99 (by
 rintro⟨(x:R_),_⟩ hp;refine ho (.lf BS (wr ((x.body.size:Int)+20),())) ?_;refine lfY ?_;all_goals try simp only[std,Nat.reduceAdd,sizeResponse] at *
 rw[Ah o_])
def openConn (l:List V_) (a:D_) (x:R_) (g:Bool):List V_×Bool:=if(l.length:Int)>=3\/findConn a l 0>=0 then(l,false) else(l++[⟨a,sizeResponse x,g,x⟩],true)
abbrev Ng:Fct:=⟨[aL .conn,aE .addr,aE .bd,aB],[rL .conn,rB],λ(x:gA)=>x.1.length<=1048576/\x.2.2.1.body.size<=1048576,λ(x:gA)=>((openConn x.1 x.2.1 x.2.2.1 x.2.2.2.1).1,(openConn x.1 x.2.1 x.2.2.1 x.2.2.2.1).2,())⟩
def E19:=E18.a Ng<|Fct.o (KP [0,3,5,6,8,9,10] [22]) E18.2 func72 (by
 rintro⟨(l:List V_),(a:D_),(x:R_),(g:Bool),_⟩ hp;refine ho (.ap (0+List.length l) 112<|.br (decide ((↑(List.length l):Int)>=3)) (.lf Ng ([]++l,false,())) (.cl QE (l,a,()) λ(z2:B_)=>.br (decide (z2.1>=0)) (.lf Ng ([]++l,false,())) (.cl BS (x,()) λ(z3:B_)=>.ap (([]++l).length+[(⟨a,z3.1,g,x⟩:V_)].length) 112<|.lf Ng ([]++l++[(⟨a,z3.1,g,x⟩:V_)],true,())))) ?_;refine Ed ?_ λ_=>Aa (λh2=>lfY ?_) (λh2=>Ae ?_ λ_=>Aa (λh4=>lfY ?_) λh4=>Ae ?_ λ_=>Ed ?_ λ_=>lfY ?_)<;>(have hp1:l.length<=1048576:=hp.1;have hp3:x.body.size<=1048576:=hp.2;clear hp;try simp only[Kj] at *)<;>(try simp only[std,Nat.reduceAdd,al,aw,aJ] at *)<;>(first|trivial|omega|(simp[openConn,h2];done)|(simp[openConn,h4];done)|(have hh:¬ ((3:Int)<=(l.length:Int)\/0<=findConn a l 0):=by omega;simp[openConn,hh];done)|skip)<;>(rw[openConn,J_ (show ¬ ((l.length:Int)>=3\/findConn a l 0>=0) by rintro(h|h)<;>omega)];exact⟨rfl,rfl⟩))
def E20:=E19.a Ng<|Fct.o (KP [0,3,5,6,8,9,10] [21]) E19.2 func48 (by
 rintro⟨(l:List V_),(a:D_),(x:R_),(g:Bool),_⟩ hp;refine ho (.cl Hr (l,()) λz2=>.br (decide ((↑(List.length l):Int)>=3)) (.lf Ng (z2.1,false,())) (.cl QE (l,a,()) λ(z3:B_)=>.br (decide (z3.1>=0)) (.lf Ng (z2.1,false,())) (.cl BS (x,()) λ(z4:B_)=>.ap (z2.1.length+[(⟨a,z4.1,g,x⟩:V_)].length) 112<|.lf Ng (z2.1++[(⟨a,z4.1,g,x⟩:V_)],true,())))) ?_;refine Ae ?_ λ_=>(Aa (λh2=>lfY ?_) λh2=>Ae ?_ λ_=>Aa (λh4=>lfY ?_) λh4=>Ae ?_ λ_=>Ed ?_ λ_=>lfY ?_)<;>(have hp1:l.length<=1048576:=hp.1;have hp3:x.body.size<=1048576:=hp.2;clear hp;try simp only[Kj] at *)<;>(try simp only[std,Nat.reduceAdd,al,aw,aJ] at *)<;>(first|trivial|omega|(simp[openConn,h2];done)|(simp[openConn,h4];done)|(have hh:¬ ((3:Int)<=(l.length:Int)\/0<=findConn a l 0):=by omega;simp[openConn,hh];done)|skip)<;>(rw[openConn,J_ (show ¬ ((l.length:Int)>=3\/findConn a l 0>=0) by rintro(h|h)<;>omega)];exact⟨rfl,rfl⟩))
abbrev IN:Fct:=⟨[.v (.sl .addr),.v (.el .addr)],[.el .int],λ(x:fg)=>x.1.length<=1000000000000000000,λ(x:fg)=>(fidx (λc=>decide (c=x.2.1)) x.1 0,())⟩
abbrev AL (l:(List D_)) (a:D_):LInv:=⟨[⟨.s,8,true,.el .int⟩,⟨.b,3,true,.el .addr⟩],λ(z x:dq)=>(0<=x.1/\x.1<=l.length/\fidx (λc=>decide (c=a)) l 0=fidx (λc=>decide (c=a)) (l.drop x.1.toNat) x.1)/\x.2.1=z.2.1,λ(x:dq)=>l.length-x.1.toNat⟩
def E21:=E20.a IN<|Fct.p (KP [0,3,4,5,7,8] [9,16]) (λ⟨l,a,_⟩=>lv [(2,AL l a)]) E20.2 func321 (by
 rintro⟨(l:List D_),(a:D_),_⟩ hp;exact hg (.lq (Int×D_×PUnit) (AL l a).inv (AL l a).m ((0:Int),(a,())) λy1 bk1=>.br (decide (y1.1<(l.length:Int))) (.ob (inB y1.1 l.length)<|.br (y1.2.1.host==(l.getD y1.1.toNat default).host&&(y1.2.1.path==(l.getD y1.1.toNat default).path&&true)) (.lf IN (y1.1,())) (.re (l)<|.re (Value.int IntKind.i64 (l.length:Int))<|.bk (bk1 (w1 y1.1,(y1.2.1,()))))) (.lf IN ((-1:Int),()))) (an_ @fidx.eq_1<|@fidx.eq_2))
abbrev GJ:Fct:=⟨[.v (.sl .addr),.v (.el .addr)],[.el .bool],λ(x:fg)=>x.1.length<=1000000000000000000,λ(x:fg)=>(x.1.any λc=>decide (c=x.2.1),())⟩
def E22:=E21.a GJ<|Fct.o [0,3,4] E21.2 func217 (by
 rintro⟨(l:List D_),(a:D_),_⟩ hp;refine ho (.cl IN (l,a,()) λ(z2:B_)=>.lf GJ (decide (z2.1>=0),())) ?_;refine Ae ?_ λ_=>(lfY ?_)<;>(try simp only[std,Nat.reduceAdd] at *)<;>(first|trivial|omega|(rw[Bool.eq_iff_iff];exact decide_eq_true_iff.trans (Kz _ _ _ o_))))
abbrev Fc:Fct:=⟨[.v (.sl .addr),.v (.el .addr)],[.el .bool],λ(x:fg)=>x.1.length<=1000000000000000000,λ(x:fg)=>(x.1.any λc=>decide (c=x.2.1),())⟩
abbrev CQ (l:(List D_)) (a:D_):LInv:=⟨[⟨.s,5,true,.el .int⟩,⟨.b,3,true,.el .addr⟩],λ(z x:dq)=>(0<=x.1/\x.1<=l.length/\l.any (λc=>decide (c=a))=(l.drop x.1.toNat).any λc=>decide (c=a))/\x.2.1=z.2.1,λ(x:dq)=>l.length-x.1.toNat⟩
def E23:=E22.a Fc<|Fct.p (KP [0,3,4,5] [9,17]) (λ⟨l,a,_⟩=>lv [(2,CQ l a)]) E22.2 func150 (by
 rintro⟨(l:List D_),(a:D_),_⟩ hp;exact hq (.lq (Int×D_×PUnit) (CQ l a).inv (CQ l a).m ((0:Int),(a,())) λy1 bk1=>.br (decide (y1.1<(l.length:Int))) (.ob (inB y1.1 l.length)<|.br ((l.getD y1.1.toNat default).host==y1.2.1.host&&((l.getD y1.1.toNat default).path==y1.2.1.path&&true)) (.lf Fc (true,())) (.re (l)<|.bk (bk1 (w1 y1.1,(y1.2.1,()))))) (.lf Fc (false,()))))
def E24:=E23.a Fc<|Fct.o [0,3,4] E23.2 func119 (by
 rintro⟨(l:List D_),(a:D_),_⟩ hp;exact hq (.cl GJ (l,a,()) λz2=>.lf Fc (z2.1,())))
def withoutAddrs (d:List D_):List ar->List ar
 | []=>[]
 | r::l=>if d.any (λc=>decide (c=r.to)) then withoutAddrs d l else r::withoutAddrs d l
abbrev En:Fct:=⟨[.v (.sl .request),.v (.sl .addr)],[.sl .request],λ(x:fF)=>x.1.length<=1000000000000/\x.2.1.length<=1048576,λ(x:fF)=>(withoutAddrs x.2.1 x.1,())⟩
abbrev Bq (l:(List ar)) (d:(List D_)):LInv:=⟨[⟨.s,5,true,.sl .request⟩,⟨.s,6,true,.el .int⟩],λ_ (x:cP)=>0<=x.2.1/\x.2.1<=l.length/\x.1.length<=x.2.1/\withoutAddrs d l=x.1++withoutAddrs d (l.drop x.2.1.toNat),λ(x:cP)=>l.length-x.2.1.toNat⟩
def E25:=E24.a En<|Fct.p (KP [0,1,4,5,6] [11,21]) (λ⟨l,d,_⟩=>lv [(3,Bq l d)]) E24.2 func64 (by
 rintro⟨(l:List ar),(d:List D_),_⟩ hp;exact hg (.lq (List ar×Int×PUnit) (Bq l d).inv (Bq l d).m ([],((0:Int),())) λy1 bk1=>.br (decide (y1.2.1<(l.length:Int))) (.ob (inB y1.2.1 l.length)<|.cl Fc (d,(l.getD y1.2.1.toNat default).to,()) λz2=>.br (!z2.1) (.ob (inB y1.2.1 l.length)<|.ap (y1.1.length+[l.getD y1.2.1.toNat default].length) 72<|.re (l)<|.re (d)<|.bk (bk1 (y1.1++[l.getD y1.2.1.toNat default],(w1 y1.2.1,())))) (.re (l)<|.re (d)<|.bk (bk1 (y1.1,(w1 y1.2.1,()))))) (.lf En (y1.1,()))) (an_ @withoutAddrs.eq_1<|@withoutAddrs.eq_2))
abbrev Bp (l:(List ar)) (d:(List D_)):LInv:=⟨[⟨.s,5,true,.sl .request⟩,⟨.s,11,true,.el .int⟩],λ_ (x:cP)=>0<=x.2.1/\x.2.1<=l.length/\x.1.length<=x.2.1/\withoutAddrs d l=x.1++withoutAddrs d (l.drop x.2.1.toNat),λ(x:cP)=>l.length-x.2.1.toNat⟩
def E26:=E25.a En<|Fct.p (KP [0,1,4,5,7,9,10,11] [12,19]) (λ⟨l,d,_⟩=>lv [(3,Bp l d)]) E25.2 func41 (by
 rintro⟨(l:List ar),(d:List D_),_⟩ hp;exact hg (.lq (List ar×Int×PUnit) (Bp l d).inv (Bp l d).m ([],((0:Int),())) λy1 bk1=>.br (decide (y1.2.1<(l.length:Int))) (.ob (inB y1.2.1 l.length)<|.cl Fc (d,(l.getD y1.2.1.toNat default).to,()) λz2=>.br (!z2.1) (.ap (y1.1.length+[l.getD y1.2.1.toNat default].length) 72<|.re (l)<|.re (d)<|.re (l)<|.re (Value.int IntKind.i64 (l.length:Int))<|.bk (bk1 (y1.1++[l.getD y1.2.1.toNat default],(w1 y1.2.1,())))) (.re (l)<|.re (d)<|.re (l)<|.re (Value.int IntKind.i64 (l.length:Int))<|.bk (bk1 (y1.1,(w1 y1.2.1,()))))) (.lf En (y1.1,()))) (an_ @withoutAddrs.eq_1<|@withoutAddrs.eq_2))
def Jd (d:List D_) (l:List ar):(withoutAddrs d l).length<=l.length:=by
 induction l<;>grind[withoutAddrs]
abbrev JZ:Fct:=⟨[.v (.sl .str),.v (.el .str)],[.el .int],λ(x:dy)=>x.1.length<=1000000000000000000,λ(x:dy)=>(fidx (λc=>decide (c=x.2.1)) x.1 0,())⟩
abbrev AZ (l:(List ByteArray)) (a:ByteArray):LInv:=⟨[⟨.s,8,true,.el .int⟩],λ_ (x:B_)=>0<=x.1/\x.1<=l.length/\fidx (λc=>decide (c=a)) l 0=fidx (λc=>decide (c=a)) (l.drop x.1.toNat) x.1,λ(x:B_)=>l.length-x.1.toNat⟩
def E27:=E26.a JZ<|Fct.p (KP [0,1,4,5,7,8] [9,16]) (λ⟨l,a,_⟩=>lv [(2,AZ l a)]) E26.2 func392 (by
 rintro⟨(l:List ByteArray),(a:ByteArray),_⟩ hp;exact hg (.lq (Int×PUnit) (AZ l a).inv (AZ l a).m ((0:Int),()) λy1 bk1=>.br (decide (y1.1<(l.length:Int))) (.ob (inB y1.1 l.length)<|.br (a.toList==(l.getD y1.1.toNat default).toList) (.lf JZ (y1.1,())) (.re (l)<|.re (Value.string a)<|.re (Value.int IntKind.i64 (l.length:Int))<|.bk (bk1 (w1 y1.1,())))) (.lf JZ ((-1:Int),()))) (an_ @fidx.eq_1<|@fidx.eq_2))
abbrev FV:Fct:=⟨[.v (.sl .str),.v (.el .str)],[.el .bool],λ(x:dy)=>x.1.length<=1000000000000000000,λ(x:dy)=>(x.1.any λc=>decide (c=x.2.1),())⟩
def E28:=E27.a FV<|Fct.o [0,1,4] E27.2 func335 (by
 rintro⟨(l:List ByteArray),(a:ByteArray),_⟩ hp;refine ho (.cl JZ (l,a,()) λ(z2:B_)=>.lf FV (decide (z2.1>=0),())) ?_;refine Ae ?_ λ_=>(lfY ?_)<;>(try simp only[std,Nat.reduceAdd] at *)<;>(first|trivial|omega|(rw[Bool.eq_iff_iff];exact decide_eq_true_iff.trans (Kz _ _ _ o_))))
abbrev Up:Fct:=⟨[.v (.sl .str),.v (.el .str)],[.el .bool],λ(x:dy)=>x.1.length<=1000000000000000000,λ(x:dy)=>(x.1.any λc=>decide (c=x.2.1),())⟩
abbrev Eu (l:(List ByteArray)) (s:ByteArray):LInv:=⟨[⟨.s,5,true,.el .int⟩],λ_ (x:B_)=>0<=x.1/\x.1<=l.length/\l.any (λc=>decide (c=s))=(l.drop x.1.toNat).any λc=>decide (c=s),λ(x:B_)=>l.length-x.1.toNat⟩
def E29:=E28.a Up<|Fct.p (KP [0,1,4,5] [9,17]) (λ⟨l,s,_⟩=>lv [(2,Eu l s)]) E28.2 func356 (by
 rintro⟨(l:List ByteArray),(s:ByteArray),_⟩ hp;exact hq (.lq (Int×PUnit) (Eu l s).inv (Eu l s).m ((0:Int),()) λy1 bk1=>.br (decide (y1.1<(l.length:Int))) (.ob (inB y1.1 l.length)<|.br ((l.getD y1.1.toNat default).toList==s.toList) (.lf Up (true,())) (.re (l)<|.re (Value.string s)<|.bk (bk1 (w1 y1.1,())))) (.lf Up (false,()))))
abbrev Hk:Fct:=⟨[.v (.sl .sent)],[.el .int],λ(x:(List bN)×Unit)=>x.1.length<=1000000000000000000,λ(x:(List bN)×Unit)=>(countIf (λs=>s.guess) x.1,())⟩
abbrev Cv (l:(List bN)):LInv:=⟨[⟨.s,3,true,.el .int⟩,⟨.s,8,true,.el .int⟩],λ_ (x:ah)=>0<=x.2.1/\x.2.1<=l.length/\0<=x.1/\x.1<=x.2.1/\x.1+countIf (λs=>s.guess) (l.drop x.2.1.toNat)=countIf (λs=>s.guess) l,λ(x:ah)=>l.length-x.2.1.toNat⟩
def E30:=E29.a Hk<|Fct.p (KP [0,2,3,5,6,7,8] [9,13]) (λ⟨l,_⟩=>lv [(3,Cv l)]) E29.2 func107 (by
 rintro⟨(l:List bN),_⟩ hp;refine ho (lpx (Cv l) ((0:Int),((0:Int),())) λ(y1:ah) bk1=>.br (decide (y1.2.1<(l.length:Int))) (.ob (inB y1.2.1 l.length)<|.br ((l.getD y1.2.1.toNat default).guess) (.re (l)<|.re (Value.int IntKind.i64 (0:Int))<|.re (l)<|.re (Value.int IntKind.i64 (l.length:Int))<|.bk (bk1 (w1 y1.1,(w1 y1.2.1,())))) (.re (l)<|.re (Value.int IntKind.i64 (0:Int))<|.re (l)<|.re (Value.int IntKind.i64 (l.length:Int))<|.bk (bk1 (y1.1,(w1 y1.2.1,()))))) (.lf Hk (y1.1,()))) ?_;refine Am ?_ λ(y1:ah) i1=>Aa (λh2=>Ab ?_ λ_=>Aa (λh4=>Ai<|Ai<|Ai<|Ai<|AR ?_) λh4=>Ai<|Ai<|Ai<|Ai<|AR ?_) (λh2=>lfY ?_)<;>(try simp only[std,Nat.reduceAdd,countIf,O_] at *)<;>(try simp(disch:=omega) only[FS,A_] at *)<;>(try simp(disch:=omega) only[I_,J_])<;>(first|trivial|omega|grind[FS,A_,HO,G_,F_,maxLen,countIf,O_]))
def guessesSent (l:List bN) (b:Int):Int:=if 0<=b then countIf (λs=>s.guess) (l.drop b.toNat) else 0
abbrev GN:Fct:=⟨[.v (.el .net),.v (.el .int)],[.el .int],λ(x:az×Int×Unit)=>x.1.log.length<=100000000000,λ(x:az×Int×Unit)=>(guessesSent x.1.log x.2.1,())⟩
def E31:=E30.a GN<|Fct.o (KP [1,2,4] [13]) E30.2 func32 (by
 rintro⟨(n:az),(b:Int),_⟩ hp;refine ho (.br (decide (b<0)) (.lf GN ((0:Int),())) (.br (decide (b>=(n.log.length:Int))) (.lf GN ((0:Int),())) (.ob (0<=b/\b<=(n.log.length:Int))<|.cl Hk (cut n.log (Int.toNat b) (n.log.length-Int.toNat b),()) λ(z2:B_)=>.lf GN (z2.1,())))) ?_;refine Aa (λh1=>lfY ?_) λh1=>Aa (λh2=>lfY ?_) λh2=>Ab ?_ λ_=>Ae ?_ λ_=>lfY ?_;all_goals
  try simp only[std,Nat.reduceAdd,guessesSent,countIf,O_,cY] at *
  try simp(disch:=omega) only[FS,A_] at *
  try simp(disch:=omega) only[I_,J_]
 all_goals first|trivial|omega|grind[FS,A_,HO,G_,F_,maxLen,guessesSent,countIf,O_,cY])
abbrev Hw:Fct:=⟨[.v (.el .page)],[.el .bool],λ(x:ak)=>True,λ(x:ak)=>(x.1.loaded,())⟩
def E32:=E31.a Hw<|Fct.o [1,2] E31.2 func301 (by
 rintro⟨(p:C_),_⟩ hp;refine ho (.lf Hw (p.loaded,())) ?_;refine lfY ?_;all_goals try simp only[std,Nat.reduceAdd] at *
 all_goals first|trivial|omega|(simp_all;done)|(simp_all;omega)|grind)
def E33:=E32.a Hw<|Fct.o [1,2] E32.2 func193 (by
 rintro⟨(p:C_),_⟩ hp;refine ho (.lf Hw (p.loaded,())) ?_;refine lfY ?_;all_goals try simp only[std,Nat.reduceAdd] at *
 all_goals first|trivial|omega|(simp_all;done)|(simp_all;omega)|grind)
def blockedOn (p:C_):D_×Bool:=if 1<=p.block/\p.block<=p.bf.length then((p.bf.getD (p.block-1).toNat default).to,true) else(default,false)
abbrev Em:Fct:=⟨[.v (.el .page)],[.el .addr,.el .bool],λ(x:ak)=>x.1.bf.length<=1000000000000/\-9223372036854775808<=x.1.block/\x.1.block<=9223372036854775807,λ(x:ak)=>((blockedOn x.1).1,(blockedOn x.1).2,())⟩
def E34:=E33.a Em<|Fct.o (KP [1,2,3] [10]) E33.2 func255 (by
 rintro⟨(p:C_),_⟩ hp;exact hg (.cl Au (p.block,(1:Int),(p.bf.length:Int),()) λz2=>.br (!z2.1) (.lf Em (default,false,())) (.ob (0<=wr (p.block-(1:Int))/\wr (p.block-(1:Int))<(p.bf.length:Int))<|.lf Em ((p.bf.getD (wr (p.block-(1:Int))).toNat default).to,true,()))) (an_ @blockedOn.eq_1<|@inRange.eq_1))
def E35:=E34.a Em<|Fct.o (KP [1,2,3,4] [21]) E34.2 func219 (by
 rintro⟨(p:C_),_⟩ hp;refine ho (.br (p.block==0) (.lf Em (default,false,())) (.br (decide (wr (p.block-(1:Int))<0)) (.lf Em (default,false,())) (.br (decide (wr (p.block-(1:Int))>=(p.bf.length:Int))) (.lf Em (default,false,())) (.ob (0<=wr (p.block-(1:Int))/\wr (p.block-(1:Int))<(p.bf.length:Int))<|.lf Em ((p.bf.getD (wr (p.block-(1:Int))).toNat default).to,true,()))))) ?_;refine Aa (λh1=>lfY ?_) λh1=>Aa (λh2=>lfY ?_) λh2=>Aa (λh3=>lfY ?_) λh3=>Ab ?_ λ_=>lfY ?_;all_goals
  try simp only[std,Nat.reduceAdd,blockedOn] at *
  try simp only[IntKind.wrap_i64] at *
  try simp(disch:=omega) only[I_,J_]
 all_goals first|trivial|omega|skip
 rw[show((p.block-1+9223372036854775808) % 18446744073709551616-9223372036854775808).toNat=(p.block-1).toNat from o_];trivial)
def classOf (p:C_) (r:ar):Int:=if(blockedOn p).2=true/\(blockedOn p).1=r.to then 0 else if r.kind=3 then 1 else if r.kind=2 then 2 else if r.kind=5 then 3 else if r.kind=4 then 4 else 5
abbrev DO:Fct:=⟨[.v (.el .page),.v (.el .request)],[.el .int],λ(x:C_×ar×Unit)=>x.1.bf.length<=1000000000000/\-9223372036854775808<=x.1.block/\x.1.block<=9223372036854775807,λ(x:C_×ar×Unit)=>(classOf x.1 x.2.1,())⟩
theorem q11 (p:C_) (r:ar) (hp:DO.pre (p,r,())):Out.holds (DO.ctr (p,r,())).post (let E_:Out:=.br (r.kind==3) (.lf DO ((1:Int),())) (.br (r.kind==2) (.lf DO ((2:Int),())) (.br (r.kind==5) (.lf DO ((3:Int),())) (.br (r.kind==4) (.lf DO ((4:Int),())) (.lf DO ((5:Int),())))));.cl Em (p,()) λz2=>.br (z2.2.1) (.br (z2.1.host==r.to.host&&(z2.1.path==r.to.path&&true)) (.lf DO ((0:Int),())) E_) E_):=hz ((@classOf.eq_1))
def E36:=E35.a DO<|Fct.o (KP [2,3,4,5,6,20] [18,21,23,25,27]) E35.2 func155 (by
 rintro⟨(p:C_),(r:ar),_⟩ hp;exact ho _ (q11 p r hp))
def E37:=E36.a DO<|Fct.o (KP [2,3,4,5,6,20] [18,21,23,25,27]) E36.2 func124 (by
 rintro⟨(p:C_),(r:ar),_⟩ hp;exact ho _ (q11 p r hp))
def J4 {l:List cO} {i:Nat} (h:i<l.length):(l.getD i default).bo.length+l.length<=szL AM l:=by
 have:=C6 AM h;have h2:=Ac BW (l.getD i default).bo;simp only[AM] at this;omega
def IV {l:List ao} {i:Nat} (h:i<l.length):(l.getD i default).bo.length+l.length<=szL szToken l:=by
 have:=C6 szToken h;have h2:=Ac BW (l.getD i default).bo;simp only[szToken] at this;omega
def pickReq (p:C_):List ar->Int->Int->Int->Int
 | [],_,best,_=>best
 | r::l,i,best,bc=>if best<0\/classOf p r<bc then pickReq p l (i+1) i (classOf p r) else pickReq p l (i+1) best bc
abbrev Fp:Fct:=⟨[.v (.el .page),.v (.sl .request)],[.el .int],λ(x:fG)=>x.1.bf.length<=1000000000000/\(-9223372036854775808<=x.1.block/\x.1.block<=9223372036854775807)/\x.2.1.length<=1000000000000,λ(x:fG)=>(pickReq x.1 x.2.1 0 (-1) 0,())⟩
abbrev BG (p:C_) (l:(List ar)):LInv:=⟨[⟨.s,5,true,.el .int⟩,⟨.s,6,true,.el .int⟩,⟨.b,2,false,.el .page⟩],λ(z x:eF)=>(0<=x.2.1/\x.2.1<=l.length/\-1<=x.1/\x.1<x.2.1/\(x.1 = -1->x.2.1=0)/\pickReq p (l.drop x.2.1.toNat) x.2.1 x.1 (if x.1<0 then 0 else classOf p (l.getD x.1.toNat default))=pickReq p l 0 (-1) 0)/\x.2.2.1=z.2.2.1,λ(x:eF)=>l.length-x.2.1.toNat⟩
def E38:=E37.a Fp<|Fct.p (KP [1,2,4,5,6] [10,29]) (λ⟨p,l,_⟩=>lv [(3,BG p l)]) E37.2 func67 (by
 rintro⟨(p:C_),(l:List ar),_⟩ hp;exact hg (.lq (Int×Int×C_×PUnit) (BG p l).inv (BG p l).m ((-1:Int),((0:Int),(p,()))) λy1 bk1=>.br (decide (y1.2.1<(l.length:Int))) (.br (decide (y1.1<0)) (.re (l)<|.re (Value.int IntKind.i64 (0:Int))<|.bk (bk1 (y1.2.1,(w1 y1.2.1,(y1.2.2.1,()))))) (.ob (inB y1.2.1 l.length)<|.cl DO (y1.2.2.1,l.getD y1.2.1.toNat default,()) λ(z2:B_)=>.ob (inB y1.1 l.length)<|.cl DO (y1.2.2.1,l.getD y1.1.toNat default,()) λ(z3:B_)=>.br (decide (z2.1<z3.1)) (.re (l)<|.re (Value.int IntKind.i64 (0:Int))<|.bk (bk1 (y1.2.1,(w1 y1.2.1,(y1.2.2.1,()))))) (.re (l)<|.re (Value.int IntKind.i64 (0:Int))<|.bk (bk1 (y1.1,(w1 y1.2.1,(y1.2.2.1,()))))))) (.lf Fp (y1.1,()))) (an_ @pickReq.eq_1<|@pickReq.eq_2))
abbrev CE (p:C_) (l:(List ar)):LInv:=⟨[⟨.s,5,true,.el .int⟩,⟨.s,10,true,.el .int⟩,⟨.b,2,false,.el .page⟩],λ(z x:eF)=>(0<=x.2.1/\x.2.1<=l.length/\-1<=x.1/\x.1<x.2.1/\(x.1 = -1->x.2.1=0)/\pickReq p (l.drop x.2.1.toNat) x.2.1 x.1 (if x.1<0 then 0 else classOf p (l.getD x.1.toNat default))=pickReq p l 0 (-1) 0)/\x.2.2.1=z.2.2.1,λ(x:eF)=>l.length-x.2.1.toNat⟩
def E39:=E38.a Fp<|Fct.p (KP [1,2,4,5,6,7,8,9,10] [11,28]) (λ⟨p,l,_⟩=>lv [(3,CE p l)]) E38.2 func43 (by
 rintro⟨(p:C_),(l:List ar),_⟩ hp;exact hg (let M_:=Value.int IntKind.i64 (0:Int);let L_:=CE p l;let H_:=Value.int IntKind.i64 (l.length:Int);.lq (Int×Int×C_×PUnit) L_.inv L_.m ((-1:Int),((0:Int),(p,()))) λy1 bk1=>let E_:Out:=.re (l)<|.re M_<|.re (l)<|.re H_<|.bk (bk1 (y1.2.1,(w1 y1.2.1,(y1.2.2.1,()))));.br (decide (y1.2.1<(l.length:Int))) (.ob (inB y1.2.1 l.length)<|.br (decide (y1.1<0)) E_ (.cl DO (y1.2.2.1,l.getD y1.2.1.toNat default,()) λ(z2:B_)=>.ob (inB y1.1 l.length)<|.cl DO (y1.2.2.1,l.getD y1.1.toNat default,()) λ(z3:B_)=>.br (decide (z2.1<z3.1)) E_ (.re (l)<|.re M_<|.re (l)<|.re H_<|.bk (bk1 (y1.1,(w1 y1.2.1,(y1.2.2.1,()))))))) (.lf Fp (y1.1,()))) (an_ @pickReq.eq_1<|@pickReq.eq_2))
abbrev Hz:Fct:=⟨[.v (.sl .guess)],[.el .int],λ(x:dz)=>x.1.length<=4194304,λ(x:dz)=>(countIf (λg=>!g.used) x.1,())⟩
abbrev BV (l:(List au)):LInv:=⟨[⟨.s,3,true,.el .int⟩,⟨.s,4,true,.el .int⟩],λ_ (x:ah)=>0<=x.2.1/\x.2.1<=l.length/\0<=x.1/\x.1<=x.2.1/\x.1+countIf (λg=>!g.used) (l.drop x.2.1.toNat)=countIf (λg=>!g.used) l,λ(x:ah)=>l.length-x.2.1.toNat⟩
def E40:=E39.a Hz<|Fct.p (KP [0,2,3,4] [8,16]) (λ⟨l,_⟩=>lv [(3,BV l)]) E39.2 func73 (by
 rintro⟨(l:List au),_⟩ hp;exact hg (.lq (Int×Int×PUnit) (BV l).inv (BV l).m ((0:Int),((0:Int),())) λy1 bk1=>.br (decide (y1.2.1<(l.length:Int))) (.ob (inB y1.2.1 l.length)<|.br (!(l.getD y1.2.1.toNat default).used) (.re (l)<|.re (Value.int IntKind.i64 (0:Int))<|.bk (bk1 (w1 y1.1,(w1 y1.2.1,())))) (.re (l)<|.re (Value.int IntKind.i64 (0:Int))<|.bk (bk1 (y1.1,(w1 y1.2.1,()))))) (.lf Hz (y1.1,()))) (an_ @countIf.eq_1<|an_ @countIf.eq_2<|@O_))
abbrev BT (l:(List au)):LInv:=⟨[⟨.s,3,true,.el .int⟩,⟨.s,8,true,.el .int⟩],λ_ (x:ah)=>0<=x.2.1/\x.2.1<=l.length/\0<=x.1/\x.1<=x.2.1/\x.1+countIf (λg=>!g.used) (l.drop x.2.1.toNat)=countIf (λg=>!g.used) l,λ(x:ah)=>l.length-x.2.1.toNat⟩
def E41:=E40.a Hz<|Fct.p (KP [0,2,3,5,6,7,8] [9,14]) (λ⟨l,_⟩=>lv [(3,BT l)]) E40.2 func25 (by
 rintro⟨(l:List au),_⟩ hp;exact hg (.lq (Int×Int×PUnit) (BT l).inv (BT l).m ((0:Int),((0:Int),())) λy1 bk1=>.br (decide (y1.2.1<(l.length:Int))) (.ob (inB y1.2.1 l.length)<|.br (!(l.getD y1.2.1.toNat default).used) (.re (l)<|.re (Value.int IntKind.i64 (0:Int))<|.re (l)<|.re (Value.int IntKind.i64 (l.length:Int))<|.bk (bk1 (w1 y1.1,(w1 y1.2.1,())))) (.re (l)<|.re (Value.int IntKind.i64 (0:Int))<|.re (l)<|.re (Value.int IntKind.i64 (l.length:Int))<|.bk (bk1 (y1.1,(w1 y1.2.1,()))))) (.lf Hz (y1.1,()))) (an_ @countIf.eq_1<|an_ @countIf.eq_2<|@O_))
def T3 {α:Type} (p:α->Bool) (l:List α):countIf (λx=>!p x) l+countIf p l=l.length:=by
 induction l with
 | nil=>simp[countIf]
 | cons x l ih=>simp only[countIf,aw];by_cases h:p x=true<;>simp[h]<;>omega
abbrev PL:Fct:=⟨[.v (.el .loader)],[.el .int],λ(x:aD)=>x.1.guesses.length<=4194304,λ(x:aD)=>(countIf (λg=>g.used) x.1.guesses,())⟩
abbrev Dx (l:N_):LInv:=⟨[⟨.s,3,true,.el .int⟩,⟨.s,4,true,.el .int⟩,⟨.b,1,false,.el .loader⟩],λ(z x:bA)=>(0<=x.2.1/\x.2.1<=l.guesses.length/\0<=x.1/\x.1<=x.2.1/\x.1+countIf (λg=>g.used) (l.guesses.drop x.2.1.toNat)=countIf (λg=>g.used) l.guesses)/\x.2.2.1=z.2.2.1,λ(x:bA)=>l.guesses.length-x.2.1.toNat⟩
def E42:=E41.a PL<|Fct.p (KP [1,2,3,4] [9,17]) (λ⟨l,_⟩=>lv [(3,Dx l)]) E41.2 func31 (by
 rintro⟨(l:N_),_⟩ hp;refine ho (lpx (Dx l) ((0:Int),((0:Int),(l,()))) λ(y1:bA) bk1=>.br (decide (y1.2.1<(y1.2.2.1.guesses.length:Int))) (.ob (inB y1.2.1 y1.2.2.1.guesses.length)<|.br ((y1.2.2.1.guesses.getD y1.2.1.toNat default).used) (.re (Value.int IntKind.i64 (0:Int))<|.bk (bk1 (w1 y1.1,(w1 y1.2.1,(y1.2.2.1,()))))) (.re (Value.int IntKind.i64 (0:Int))<|.bk (bk1 (y1.1,(w1 y1.2.1,(y1.2.2.1,())))))) (.lf PL (y1.1,()))) ?_;refine Am ?_ λ(y1:bA) i1=>Aa (λh2=>Ab ?_ λ_=>Aa (λh4=>Ai<|AR ?_) λh4=>Ai<|AR ?_) (λh2=>lfY ?_)<;>(try simp only[std,Nat.reduceAdd,countIf,O_] at *)<;>(try simp(disch:=omega) only[FS,A_] at *)<;>(try simp(disch:=omega) only[I_,J_])<;>(first|trivial|omega|grind[FS,A_,HO,G_,F_,maxLen,countIf,O_]))
def E43:=E42.a PL<|Fct.o [1,2] E42.2 func30 (by
 rintro⟨(l:N_),_⟩ hp;refine ho (.cl Hz (l.guesses,()) λ(z2:B_)=>.lf PL (wr ((l.guesses.length:Int)-z2.1),())) ?_;refine Ae ?_ λ_=>(lfY ?_)<;>(have hc:=T3 (λg:au=>g.used) l.guesses;have hc2:=O_ (λg:au=>g.used) l.guesses;try simp only[std,Nat.reduceAdd] at *)<;>(try simp(disch:=omega) only[FS,A_] at *)<;>(try simp(disch:=omega) only[I_,J_])<;>(first|trivial|omega|grind[FS,A_,HO,G_,F_,maxLen]))
def sumIf {α:Type} (p:α->Bool) (f:α->Int):List α->Int
 | []=>0
 | x::l=>(if p x then f x else 0)+sumIf p f l
def Vx {α:Type} (p:α->Bool) (f:α->Int) (h:∀ x,0<=f x) (l:List α):0<=sumIf p f l:=by
 induction l with
 | nil=>simp[sumIf]
 | cons x l ih=>simp only[sumIf];have:=h x;split<;>omega
def wasteOf (l:List au):Int:=sumIf (λg=>!g.used) (λg=>g.bd.body.size+20) l
def connWaste (l:List V_):Int:=sumIf (λc=>c.guess) (λc=>c.bd.body.size+20) l
def JO (l:List au):0<=sumIf (λg:au=>!g.used) (λg=>(g.bd.body.size:Int)+20) l:=Vx _ _ (λ_=>o_) l
def FH (l:List V_):0<=sumIf (λc:V_=>c.guess) (λc=>(c.bd.body.size:Int)+20) l:=Vx _ _ (λ_=>o_) l
abbrev JQ:Fct:=⟨[.v (.sl .guess)],[.el .int],λ(x:dz)=>x.1.length<=1000000000000/\wasteOf x.1<=1000000000000,λ(x:dz)=>(wasteOf x.1,())⟩
abbrev EY (l:(List au)):LInv:=⟨[⟨.s,3,true,.el .int⟩,⟨.s,4,true,.el .int⟩],λ_ (x:ah)=>0<=x.2.1/\x.2.1<=l.length/\0<=x.1/\x.1+sumIf (λg=>!g.used) (λg=>(g.bd.body.size:Int)+20) (l.drop x.2.1.toNat)=wasteOf l,λ(x:ah)=>l.length-x.2.1.toNat⟩
def E44:=E43.a JQ<|Fct.p (KP [0,2,3,4] [8,16]) (λ⟨l,_⟩=>lv [(3,EY l)]) E43.2 func104 (by
 rintro⟨(l:List au),_⟩ hp;refine ho (lpx (EY l) ((0:Int),((0:Int),())) λ(y1:ah) bk1=>.br (decide (y1.2.1<(l.length:Int))) (.ob (inB y1.2.1 l.length)<|.br (!(l.getD y1.2.1.toNat default).used) (.ob (inB y1.2.1 l.length)<|.cl BS ((l.getD y1.2.1.toNat default).bd,()) λ(z2:B_)=>.re (l)<|.re (Value.int IntKind.i64 (0:Int))<|.bk (bk1 (wr (y1.1+z2.1),(w1 y1.2.1,())))) (.re (l)<|.re (Value.int IntKind.i64 (0:Int))<|.bk (bk1 (y1.1,(w1 y1.2.1,()))))) (.lf JQ (y1.1,()))) ?_;refine Am ?_ λ(y1:ah) i1=>Aa (λh2=>Ab ?_ λ_=>Aa (λh4=>Ab ?_ λ_=>Ae ?_ λ_=>(Ai<|Ai<|AR ?_)) λh4=>Ai<|Ai<|AR ?_) (λh2=>lfY ?_)<;>(try have hn1:=JO (l.drop (y1.2.1.toNat+1)))<;>(try simp only[std,Nat.reduceAdd,wasteOf,sumIf,sizeResponse] at *)<;>(try simp(disch:=omega) only[FS,A_] at *)<;>(try simp(disch:=omega) only[I_,J_])<;>(first|trivial|omega|grind[FS,A_,HO,G_,F_,maxLen,wasteOf,sumIf,sizeResponse]))
abbrev Fa (l:(List au)):LInv:=⟨[⟨.s,3,true,.el .int⟩,⟨.s,8,true,.el .int⟩],λ_ (x:ah)=>0<=x.2.1/\x.2.1<=l.length/\0<=x.1/\x.1+sumIf (λg=>!g.used) (λg=>(g.bd.body.size:Int)+20) (l.drop x.2.1.toNat)=wasteOf l,λ(x:ah)=>l.length-x.2.1.toNat⟩
def E45:=E44.a JQ<|Fct.p (KP [0,2,3,5,6,7,8] [9,14]) (λ⟨l,_⟩=>lv [(3,Fa l)]) E44.2 func98 (by
 rintro⟨(l:List au),_⟩ hp;refine ho (lpx (Fa l) ((0:Int),((0:Int),())) λ(y1:ah) bk1=>.br (decide (y1.2.1<(l.length:Int))) (.ob (inB y1.2.1 l.length)<|.br (!(l.getD y1.2.1.toNat default).used) (.cl BS ((l.getD y1.2.1.toNat default).bd,()) λ(z2:B_)=>.re (l)<|.re (Value.int IntKind.i64 (0:Int))<|.re (l)<|.re (Value.int IntKind.i64 (l.length:Int))<|.bk (bk1 (wr (y1.1+z2.1),(w1 y1.2.1,())))) (.re (l)<|.re (Value.int IntKind.i64 (0:Int))<|.re (l)<|.re (Value.int IntKind.i64 (l.length:Int))<|.bk (bk1 (y1.1,(w1 y1.2.1,()))))) (.lf JQ (y1.1,()))) ?_;refine Am ?_ λ(y1:ah) i1=>Aa (λh2=>Ab ?_ λ_=>Aa (λh4=>Ae ?_ λ_=>(Ai<|Ai<|Ai<|Ai<|AR ?_)) λh4=>Ai<|Ai<|Ai<|Ai<|AR ?_) (λh2=>lfY ?_)<;>(try have hn1:=JO (l.drop (y1.2.1.toNat+1)))<;>(try simp only[std,Nat.reduceAdd,wasteOf,sumIf,sizeResponse] at *)<;>(try simp(disch:=omega) only[FS,A_] at *)<;>(try simp(disch:=omega) only[I_,J_])<;>(first|trivial|omega|grind[FS,A_,HO,G_,F_,maxLen,wasteOf,sumIf,sizeResponse]))
def loaderWaste (l:N_):Int:=wasteOf l.guesses+connWaste l.conns
abbrev C9:Fct:=⟨[.v (.el .loader)],[.el .int],λ(x:aD)=>x.1.guesses.length<=1000000000000/\x.1.conns.length<=1000000000000/\loaderWaste x.1<=1000000000000,λ(x:aD)=>(loaderWaste x.1,())⟩
abbrev CC (l:N_):LInv:=⟨[⟨.s,3,true,.el .int⟩,⟨.s,4,true,.el .int⟩,⟨.b,1,false,.el .loader⟩],λ(z x:bA)=>(0<=x.2.1/\x.2.1<=l.conns.length/\0<=x.1/\x.1+sumIf (λc=>c.guess) (λc=>(c.bd.body.size:Int)+20) (l.conns.drop x.2.1.toNat)=loaderWaste l)/\x.2.2.1=z.2.2.1,λ(x:bA)=>l.conns.length-x.2.1.toNat⟩
def E46:=E45.a C9<|Fct.p (KP [1,2,3,4] [12,20]) (λ⟨l,_⟩=>lv [(3,CC l)]) E45.2 func28 (by
 rintro⟨(l:N_),_⟩ hp;refine ho (.cl JQ (l.guesses,()) λ(z2:B_)=>lpx (CC l) (z2.1,((0:Int),(l,()))) λ(y2:bA) bk2=>.br (decide (y2.2.1<(y2.2.2.1.conns.length:Int))) (.ob (inB y2.2.1 y2.2.2.1.conns.length)<|.br ((y2.2.2.1.conns.getD y2.2.1.toNat default).guess) (.ob (inB y2.2.1 y2.2.2.1.conns.length)<|.cl BS ((y2.2.2.1.conns.getD y2.2.1.toNat default).bd,()) λ(z3:B_)=>.re (Value.int IntKind.i64 (0:Int))<|.bk (bk2 (wr (y2.1+z3.1),(w1 y2.2.1,(y2.2.2.1,()))))) (.re (Value.int IntKind.i64 (0:Int))<|.bk (bk2 (y2.1,(w1 y2.2.1,(y2.2.2.1,())))))) (.lf C9 (y2.1,()))) ?_;refine Ae ?_ λ_=>(Am ?_ λ(y2:bA) i2=>Aa (λh3=>Ab ?_ λ_=>Aa (λh5=>Ab ?_ λ_=>Ae ?_ λ_=>(Ai<|AR ?_)) λh5=>Ai<|AR ?_) λh3=>lfY ?_)<;>(have hw0:=JO l.guesses;have hw1:=FH l.conns;try have hn1:=FH (l.conns.drop (y1.2.1.toNat+1)))<;>(try have hn2:=FH (l.conns.drop (y2.2.1.toNat+1)))<;>(try simp only[std,Nat.reduceAdd,loaderWaste,connWaste,wasteOf,sumIf,sizeResponse] at *)<;>(try simp(disch:=omega) only[FS,A_] at *)<;>(try simp(disch:=omega) only[I_,J_])<;>(first|trivial|omega|grind[FS,A_,HO,G_,F_,maxLen,loaderWaste,connWaste,wasteOf,sumIf,sizeResponse]))
abbrev CF (l:N_):LInv:=⟨[⟨.s,3,true,.el .int⟩,⟨.s,12,true,.el .int⟩],λ_ (x:ah)=>0<=x.2.1/\x.2.1<=l.conns.length/\0<=x.1/\x.1+sumIf (λc=>c.guess) (λc=>(c.bd.body.size:Int)+20) (l.conns.drop x.2.1.toNat)=loaderWaste l,λ(x:ah)=>l.conns.length-x.2.1.toNat⟩
def E47:=E46.a C9<|Fct.p (KP [1,2,3,5,10,11,12] [13,17]) (λ⟨l,_⟩=>lv [(3,CF l)]) E46.2 func22 (by
 rintro⟨(l:N_),_⟩ hp;refine ho (.cl JQ (l.guesses,()) λ(z2:B_)=>lpx (CF l) (z2.1,((0:Int),())) λ(y2:ah) bk2=>.br (decide (y2.2.1<(l.conns.length:Int))) (.ob (inB y2.2.1 l.conns.length)<|.br ((l.conns.getD y2.2.1.toNat default).guess) (.cl BS ((l.conns.getD y2.2.1.toNat default).bd,()) λ(z3:B_)=>.re (Value.int IntKind.i64 (0:Int))<|.re (l.conns)<|.re (Value.int IntKind.i64 (l.conns.length:Int))<|.bk (bk2 (wr (y2.1+z3.1),(w1 y2.2.1,())))) (.re (Value.int IntKind.i64 (0:Int))<|.re (l.conns)<|.re (Value.int IntKind.i64 (l.conns.length:Int))<|.bk (bk2 (y2.1,(w1 y2.2.1,()))))) (.lf C9 (y2.1,()))) ?_;refine Ae ?_ λ_=>(Am ?_ λ(y2:ah) i2=>Aa (λh3=>Ab ?_ λ_=>Aa (λh5=>Ae ?_ λ_=>(Ai<|Ai<|Ai<|AR ?_)) λh5=>Ai<|Ai<|Ai<|AR ?_) λh3=>lfY ?_)<;>(have hw0:=JO l.guesses;have hw1:=FH l.conns;try have hn1:=FH (l.conns.drop (y1.2.1.toNat+1)))<;>(try have hn2:=FH (l.conns.drop (y2.2.1.toNat+1)))<;>(try simp only[std,Nat.reduceAdd,loaderWaste,connWaste,wasteOf,sumIf,sizeResponse] at *)<;>(try simp(disch:=omega) only[FS,A_] at *)<;>(try simp(disch:=omega) only[I_,J_])<;>(first|trivial|omega|grind[FS,A_,HO,G_,F_,maxLen,loaderWaste,connWaste,wasteOf,sumIf,sizeResponse]))
abbrev D6:Fct:=⟨[.v (.el .loader)],[.el .bool],λ(x:aD)=>True,λ(x:aD)=>(x.1.page.loaded&&decide (x.1.parts.length=0),())⟩
theorem q0 (l:N_) (hp:D6.pre (l,())):Out.holds (D6.ctr (l,())).post (.cl Hw (l.page,()) λz2=>.br (z2.1) (.lf D6 ((l.parts.length:Int)==0,())) (.lf D6 (false,()))):=by
 refine Ae trivial λ_=>(Aa (λh1=>lfY ?_) λh1=>lfY ?_)<;>(try simp only[std,Nat.reduceAdd] at *)<;>(try simp(disch:=omega) only[FS,A_] at *)<;>(try simp(disch:=omega) only[I_,J_])<;>(first|trivial|omega|grind[FS,A_,HO,G_,F_,maxLen])
def E48:=E47.a D6<|Fct.o [1,2] E47.2 func195 (by
 rintro⟨(l:N_),_⟩ hp;exact ho _ (q0 l hp))
def E49:=E48.a D6<|Fct.o [1,2] E48.2 func101 (by
 rintro⟨(l:N_),_⟩ hp;exact ho _ (q0 l hp))
abbrev Hn:Fct:=⟨[.v (.sl .attr)],[.sl .attr],λ(x:(List cf)×Unit)=>x.1.length<=1099511627776,λ(x:(List cf)×Unit)=>(x.1,())⟩
def E50:=E49.a Hn<|Fct.o [0,2] E49.2 func337 (by
 rintro⟨(l:List cf),_⟩ hp;exact hq (.ap (0+List.length l) 32<|.lf Hn ([]++l,())))
abbrev Mm:Fct:=⟨[.v (.el .token)],[.el .token],λ(x:ao×Unit)=>x.1.bo.length<=1099511627776,λ(x:ao×Unit)=>(x.1,())⟩
def E51:=E50.a Mm<|Fct.o [1,2] E50.2 func307 (by
 rintro⟨(t:ao),_⟩ hp;exact hq (.ap (0+t.bo.length) 32<|.lf Mm (⟨t.kind,t.name,[]++t.bo,t.text⟩,())))
abbrev HB:Fct:=⟨[.v (.sl .token)],[.sl .token],λ(x:(List ao)×Unit)=>szL szToken x.1<=1099511627776,λ(x:(List ao)×Unit)=>(x.1,())⟩
abbrev De (l:(List ao)):LInv:=⟨[⟨.s,3,true,.sl .token⟩,⟨.s,4,true,.el .int⟩],λ_ (x:cQ)=>0<=x.2.1/\x.2.1<=l.length/\x.1=l.take x.2.1.toNat,λ(x:cQ)=>l.length-x.2.1.toNat⟩
def E52:=E51.a HB<|Fct.p (KP [0,2,3,4,5] [10]) (λ⟨l,_⟩=>lv [(3,De l)]) E51.2 func241 (by
 rintro⟨(l:List ao),_⟩ hp;refine ho (lpx (De l) ([],((0:Int),())) λ(y1:cQ) bk1=>let L_:=inB y1.2.1 l.length;let E_:=l.getD y1.2.1.toNat default;.br (decide (y1.2.1<(l.length:Int))) (.ob L_<|.ob L_<|.cl Hn (E_.bo,()) λz2=>let H_:=(⟨E_.kind,E_.name,z2.1,E_.text⟩:ao);.ob (IA (y1.1.length+[H_].length) 64)<|.re (l)<|.bk (bk1 (y1.1++[H_],(w1 y1.2.1,())))) (.lf HB (y1.1,()))) ?_;refine Am ?_ λ(y1:cQ) i1=>Aa (λh2=>Ab ?_ λ_=>Ab ?_ λ_=>Ae ?_ λ_=>(Ab ?_ λ_=>Ai<|AR ?_)) (λh2=>lfY ?_)<;>(have hl:=Ac szToken l;try have hg:=IV (l:=l) (i:=y1.2.1.toNat))<;>(try have hg:=IV (l:=l) (i:=y2.2.1.toNat))<;>(try simp only[std,Nat.reduceAdd,S_,aZ] at *)<;>(try simp(disch:=omega) only[FS,A_] at *)<;>(try simp(disch:=omega) only[I_,J_])<;>(first|trivial|omega|grind[FS,A_,HO,G_,F_,maxLen,S_,aZ]))
abbrev C1 (l:(List ao)):LInv:=⟨[⟨.s,3,true,.sl .token⟩,⟨.s,9,true,.el .int⟩],λ_ (x:cQ)=>0<=x.2.1/\x.2.1<=l.length/\x.1=l.take x.2.1.toNat,λ(x:cQ)=>l.length-x.2.1.toNat⟩
def E53:=E52.a HB<|Fct.p (KP [0,2,3,5,7,8,9] [10]) (λ⟨l,_⟩=>lv [(3,C1 l)]) E52.2 func204 (by
 rintro⟨(l:List ao),_⟩ hp;refine ho (lpx (C1 l) ([],((0:Int),())) λ(y1:cQ) bk1=>.br (decide (y1.2.1<(l.length:Int))) (.ob (inB y1.2.1 l.length)<|.cl Mm (l.getD y1.2.1.toNat default,()) λz2=>.ob (IA (y1.1.length+[z2.1].length) 64)<|.re (l)<|.re (l)<|.re (Value.int IntKind.i64 (l.length:Int))<|.bk (bk1 (y1.1++[z2.1],(w1 y1.2.1,())))) (.lf HB (y1.1,()))) ?_;refine Am ?_ λ(y1:cQ) i1=>Aa (λh2=>Ab ?_ λ_=>Ae ?_ λ_=>(Ab ?_ λ_=>Ai<|Ai<|Ai<|AR ?_)) (λh2=>lfY ?_)<;>(have hl:=Ac szToken l;try have hg:=IV (l:=l) (i:=y1.2.1.toNat))<;>(try have hg:=IV (l:=l) (i:=y2.2.1.toNat))<;>(try simp only[std,Nat.reduceAdd,S_,aZ] at *)<;>(try simp(disch:=omega) only[FS,A_] at *)<;>(try simp(disch:=omega) only[I_,J_])<;>(first|trivial|omega|grind[FS,A_,HO,G_,F_,maxLen,S_,aZ]))
theorem bD {b:af} {n:Nat} (h:b.bi.length<=n):(⟨b.bi.take n,b.bl⟩:af)=b:=by rw[ct h]
abbrev Cl:Fct:=⟨[.v (.el .ba)],[.el .ba],λ(x:af×Unit)=>szBuilder x.1<=1099511627776,λ(x:af×Unit)=>(x.1,())⟩
abbrev DL (b:af):LInv:=⟨[⟨.b,3,true,.el .ba⟩,⟨.s,4,true,.el .int⟩,⟨.b,1,false,.el .ba⟩,⟨.b,2,true,.el .ba⟩],λ(z x:eG)=>((0<=x.2.1/\x.2.1<=b.bi.length/\x.1=⟨b.bi.take x.2.1.toNat,b.bl⟩)/\x.2.2.1=z.2.2.1)/\x.2.2.2.1=z.2.2.2.1,λ(x:eG)=>b.bi.length-x.2.1.toNat⟩
def E54:=E53.a Cl<|Fct.p (KP [1,2,3,4,5] [15]) (λ⟨b,_⟩=>lv [(3,DL b)]) E53.2 func242 (by
 rintro⟨(b:af),_⟩ hp;refine ho (.ap (0+b.bl.length) 8<|lpx (DL b) ((⟨[],[]++b.bl⟩:af),((0:Int),(b,(default,())))) λ(y2:eG) bk2=>let L_:=inB y2.2.1 y2.2.2.1.bi.length;let E_:=y2.2.2.1.bi.getD y2.2.1.toNat default;.br (decide (y2.2.1<(y2.2.2.1.bi.length:Int))) (.ob L_<|.ob L_<|.cl Hn (E_.bo,()) λz2=>let H_:=(⟨E_.name,E_.text,E_.parent,z2.1⟩:cO);.ob (IA (y2.1.bi.length+[H_].length) 64)<|.bk (bk2 ((⟨y2.1.bi++[H_],y2.1.bl⟩:af),(w1 y2.2.1,(y2.2.2.1,(y2.2.2.2.1,())))))) (.lf Cl (y2.1,()))) ?_;refine Ed ?_ λ_=>Am ?_ λ(y2:eG) i2=>Aa (λh3=>Ab ?_ λ_=>Ab ?_ λ_=>Ae ?_ λ_=>Ab ?_ λ_=>AR ?_) (λh3=>lfY ?_)<;>(have hl:=Ac AM b.bi;try have hg:=J4 (l:=b.bi) (i:=y1.2.1.toNat))<;>(try have hg:=J4 (l:=b.bi) (i:=y2.2.1.toNat))<;>(try simp only[std,Nat.reduceAdd,S_,bD,szBuilder] at *)<;>(try simp(disch:=omega) only[FS,A_] at *)<;>(try simp(disch:=omega) only[I_,J_])<;>(first|trivial|omega|grind[FS,A_,HO,G_,F_,maxLen,S_,bD,szBuilder]))
abbrev Cz (b:af):LInv:=⟨[⟨.b,3,true,.el .ba⟩,⟨.s,14,true,.el .int⟩,⟨.b,2,true,.el .ba⟩],λ(z x:eH)=>(0<=x.2.1/\x.2.1<=b.bi.length/\x.1=⟨b.bi.take x.2.1.toNat,b.bl⟩)/\x.2.2.1=z.2.2.1,λ(x:eH)=>b.bi.length-x.2.1.toNat⟩
def E55:=E54.a Cl<|Fct.p (KP [1,2,3,5,12,13,14] [15]) (λ⟨b,_⟩=>lv [(3,Cz b)]) E54.2 func205 (by
 rintro⟨(b:af),_⟩ hp;refine ho (let L_:=(b.bi.length:Int);.ap (0+b.bl.length) 8<|lpx (Cz b) ((⟨[],[]++b.bl⟩:af),((0:Int),(default,()))) λ(y2:eH) bk2=>let E_:=b.bi.getD y2.2.1.toNat default;let H_:=(⟨E_.name,E_.text,E_.parent,[]++E_.bo⟩:cO);.br (decide (y2.2.1<L_)) (.ob (inB y2.2.1 b.bi.length)<|.ap (0+E_.bo.length) 32<|.ob (IA (y2.1.bi.length+[H_].length) 64)<|.re (b.bi)<|.re (Value.int IntKind.i64 L_)<|.bk (bk2 ((⟨y2.1.bi++[H_],y2.1.bl⟩:af),(w1 y2.2.1,(y2.2.2.1,()))))) (.lf Cl (y2.1,()))) ?_;refine Ed ?_ λ_=>Am ?_ λ(y2:eH) i2=>Aa (λh3=>Ab ?_ λ_=>Ed ?_ λ_=>Ab ?_ λ_=>Ai<|Ai<|AR ?_) (λh3=>lfY ?_)<;>(have hl:=Ac AM b.bi;try have hg:=J4 (l:=b.bi) (i:=y1.2.1.toNat))<;>(try have hg:=J4 (l:=b.bi) (i:=y2.2.1.toNat))<;>(try simp only[std,Nat.reduceAdd,S_,bD,szBuilder] at *)<;>(try simp(disch:=omega) only[FS,A_] at *)<;>(try simp(disch:=omega) only[I_,J_])<;>(first|trivial|omega|grind[FS,A_,HO,G_,F_,maxLen,S_,bD,szBuilder]))
abbrev Fh:Fct:=⟨[.v (.el .bj)],[.el .bj],λ(x:bO)=>AQ x.1<=1099511627776,λ(x:bO)=>(x.1,())⟩
def E56:=E55.a Fh<|Fct.o [1,2] E55.2 func240 (by
 rintro⟨(p:aN),_⟩ hp;exact hg (.ap p.bp.length 16<|.ap p.styles.length 16<|.ap p.images.length 16<|.lf Fh (p,())) (an_ @AQ.eq_1<|an_ (Ac Af p.bp)<|an_ (Ac Af p.styles)<|(Ac Af p.images)))
def E57:=E56.a Fh<|Fct.o [1,2] E56.2 func203 (by
 rintro⟨(p:aN),_⟩ hp;exact hg (.ap (0+p.bp.length) 16<|.ap (0+p.styles.length) 16<|.ap (0+p.images.length) 16<|.lf Fh (⟨p.set_,[]++p.bp,[]++p.styles,[]++p.images,p.nonce⟩,())) (an_ @AQ.eq_1<|an_ (Ac Af p.bp)<|an_ (Ac Af p.styles)<|(Ac Af p.images)))
abbrev AA:Fct:=⟨[.v (.el .page)],[.el .page],λ(x:ak)=>Aj x.1<=1099511627776,λ(x:ak)=>(x.1,())⟩
theorem q12 (p:C_) (hp:AA.pre (p,())):Out.holds (AA.ctr (p,())).post (.cl Fh (p.bj,()) λz2=>.cl HB (p.bn,()) λz3=>.cl Cl (p.ba,()) λz4=>.ap (0+p.bf.length) 96<|.ap (0+p.bh.length) 64<|.ap (0+p.bg.length) 32<|.ap (0+p.ran.length) 32<|.ap (0+p.log.length) 16<|.lf AA (⟨p.addr,z2.1,p.tok,z3.1,p.ended,z4.1,[]++p.bf,[]++p.bh,[]++p.bg,p.block,p.inline,p.bm,p.bq,[]++p.ran,[]++p.log,p.loaded⟩,())):=hz ((an_ @Aj.eq_1<|an_ (Ac AO p.bf)<|an_ (Ac AF p.bh)<|an_ (Ac szAddr p.bg)<|an_ (Ac szAddr p.ran)<|(Ac Af p.log)))
def E58:=E57.a AA<|Fct.o [1,2,3] E57.2 func145 (by
 rintro⟨(p:C_),_⟩ hp;exact ho _ (q12 p hp))
def E59:=E58.a AA<|Fct.o [1,2] E58.2 func112 (by
 rintro⟨(p:C_),_⟩ hp;exact ho _ (q12 p hp))
abbrev BH:Fct:=⟨[.v (.el .addr),.v (.el .addr)],[.el .int],λ(x:D_×D_×Unit)=>True,λ(x:D_×D_×Unit)=>(cmpA x.1 x.2.1,())⟩
def E60:=E59.a BH<|Fct.o (KP [2,3,4] [5,9]) E59.2 func354 (by
 rintro⟨(a:D_),(b:D_),_⟩ hp;refine ho (.br (a.host==b.host&&(a.path==b.path&&true)) (.lf BH ((0:Int),())) (.br (Op.bytesLess a.host.toList b.host.toList) (.lf BH ((-1:Int),())) (.br (a.host.toList==b.host.toList) (.br (Op.bytesLess a.path.toList b.path.toList) (.lf BH ((-1:Int),())) (.lf BH ((1:Int),()))) (.lf BH ((1:Int),()))))) ?_;repeat' (guard_target =~ Out.holds _ _;first|refine lfY ?_|refine Aa (λ_=>?_) λ_=>?_)
 all_goals (try simp only[Ev,Aar,aH,ca] at *)<;>(have h1:=Mp a.host b.host;have h2:=Mp a.path b.path;have h3:=XQ a b;have h4:=Agb (a:=a) (b:=b);have h5:=NQ (a:=a.host) (b:=b.host);have h6:=NQ (a:=a.path) (b:=b.path);try simp only[std,Nat.reduceAdd,cmpA] at *)<;>(try simp(disch:=omega) only[FS,A_] at *)<;>(try simp(disch:=omega) only[I_,J_])<;>(first|trivial|omega|grind[FS,A_,HO,G_,F_,maxLen,cmpA]))
def laysCmp_r:Go.Shelf.Ren:=⟨λ|0=>0|1=>1|2=>2|99=>504|101=>298|103=>309|106=>389|109=>392|110=>335|111=>278|125=>185|128=>288|129=>289|137=>206|138=>408|143=>409|145=>310|146=>297|156=>328|165=>386|166=>387|169=>388|171=>416|172=>455|189=>90|193=>84|195=>431|197=>432|205=>485|206=>410|208=>366|210=>371|213=>421|215=>362|216=>285|217=>308|218=>433|219=>412|220=>372|221=>365|224=>437|225=>436|240=>419|241=>420|243=>443|244=>459|245=>460|246=>456|247=>468|257=>184|260=>450|265=>447|266=>370|267=>438|268=>407|276=>445|277=>446|279=>469|280=>470|281=>471|282=>472|283=>461|284=>462|285=>463|286=>464|287=>483|294=>279|295=>280|296=>281|297=>282|298=>283|299=>284|300=>286|301=>287|314=>452|316=>484|317=>473|318=>474|319=>475|320=>476|321=>494|322=>495|328=>357|329=>358|330=>359|331=>360|332=>361|337=>486|338=>487|343=>404|347=>513|348=>514|349=>515|350=>516|351=>517|352=>518|353=>519|354=>520|355=>521|356=>522|357=>523|358=>524|359=>525|360=>526|361=>527|362=>528|363=>542|364=>529|365=>530|366=>543|367=>558|_=>0,λ|0=>0|1=>1|2=>2|3=>3|4=>4|5=>5|6=>6|7=>7|8=>8|9=>9|10=>10|11=>11|12=>12|13=>13|14=>14|15=>15|16=>16|17=>17|18=>18|19=>19|20=>20|21=>21|22=>296|23=>276|24=>222|25=>279|27=>345|28=>40|31=>33|32=>347|33=>304|34=>255|35=>117|36=>361|37=>22|43=>165|46=>187|47=>186|51=>266|52=>265|53=>268|54=>267|55=>203|59=>280|60=>281|61=>274|67=>298|69=>365|70=>336|71=>337|72=>338|73=>339|74=>340|75=>341|76=>342|77=>343|80=>344|81=>66|83=>334|84=>383|85=>413|86=>414|94=>497|101=>111|103=>335|104=>229|105=>371|106=>372|108=>439|111=>319|112=>261|113=>321|114=>211|119=>384|127=>363|128=>404|131=>263|134=>185|137=>385|138=>386|139=>387|143=>455|144=>456|145=>457|146=>379|150=>360|151=>380|164=>374|165=>375|166=>376|167=>412|168=>415|169=>416|170=>417|171=>405|172=>406|173=>407|174=>408|175=>435|176=>436|181=>256|182=>257|183=>258|184=>259|185=>260|186=>262|187=>264|209=>437|210=>438|211=>418|212=>419|213=>420|214=>454|218=>313|219=>314|220=>315|221=>316|222=>317|223=>318|228=>357|229=>358|230=>359|232=>458|233=>459|238=>472|239=>473|240=>474|241=>475|242=>476|243=>477|244=>478|245=>479|246=>480|247=>481|248=>482|249=>483|_=>0,λ|1=>0|3=>1|4=>2|15=>4|16=>5|17=>3|18=>6|19=>7|_=>0⟩
def Afz:Go.Proofs.Lays.n106 Tryz.prog laysCmp_r:=by repeat' first|kernel_rfl|constructor|intro _
def E61:=E60.a fCmpStr<|Afy rfl (Any.strings_Compare Afz)
def E62:=E61.a BH<|Fct.o (KP [2,3,4,5] [12]) E61.2 func329 (by
 rintro⟨(a:D_),(b:D_),_⟩ hp;refine ho (.cl fCmpStr (a.host,b.host,()) λ(z2:B_)=>.br (z2.1 != 0) (.lf BH (z2.1,())) (.cl fCmpStr (a.path,b.path,()) λ(z3:B_)=>.lf BH (z3.1,()))) ?_;refine Ae trivial λ_=>(Aa (λh1=>lfY ?_) λh1=>Ae trivial λ_=>lfY ?_)<;>(try simp only[fCmpStr,std,Nat.reduceAdd,cmpA] at *)<;>(try simp(disch:=omega) only[FS,A_] at *)<;>(try simp(disch:=omega) only[I_,J_])<;>(first|trivial|omega|grind[FS,A_,HO,G_,F_,maxLen,cmpA,fCmpStr]))
abbrev G9:Fct:=⟨[.v (.el .page),.v (.el .addr)],[.el .int],λ(x:aO)=>x.1.bh.length<=1000000000000,λ(x:aO)=>(fidx (λm=>decide (m.to=x.2.1)) x.1.bh 0,())⟩
abbrev Dl (p:C_) (a:D_):LInv:=⟨[⟨.s,5,true,.el .int⟩,⟨.b,2,false,.el .page⟩,⟨.b,3,true,.el .addr⟩],λ(z x:eI)=>((0<=x.1/\x.1<=p.bh.length/\fidx (λm=>decide (m.to=a)) (p.bh.drop x.1.toNat) x.1=fidx (λm=>decide (m.to=a)) p.bh 0)/\x.2.1=z.2.1)/\x.2.2.1=z.2.2.1,λ(x:eI)=>p.bh.length-x.1.toNat⟩
def E63:=E62.a G9<|Fct.p (KP [2,3,4,5] [10,20]) (λ⟨p,a,_⟩=>lv [(2,Dl p a)]) E62.2 func259 (by
 rintro⟨(p:C_),(a:D_),_⟩ hp;exact hg (.lq (Int×C_×D_×PUnit) (Dl p a).inv (Dl p a).m ((0:Int),(p,(a,()))) λy1 bk1=>.br (decide (y1.1<(y1.2.1.bh.length:Int))) (.ob (inB y1.1 y1.2.1.bh.length)<|.br ((y1.2.1.bh.getD y1.1.toNat default).to.host==y1.2.2.1.host&&((y1.2.1.bh.getD y1.1.toNat default).to.path==y1.2.2.1.path&&true)) (.lf G9 (y1.1,())) (.bk (bk1 (w1 y1.1,(y1.2.1,(y1.2.2.1,())))))) (.lf G9 ((-1:Int),()))) (an_ @fidx.eq_1<|@fidx.eq_2))
abbrev KS:Fct:=⟨[.v (.el .module),.p (.el .addr)],[.el .bool],λ(x:Y_×D_×Unit)=>True,λ(x:Y_×D_×Unit)=>(decide (x.1.to=x.2.1),())⟩
def E64:=E63.a KS<|Fct.o [1,2,3] E63.2 func324 (by
 rintro⟨(m:Y_),(a:D_),_⟩ hp;exact hq (.lf KS (m.to.host==a.host&&(m.to.path==a.path&&true),())))
abbrev Bb:Fct:=⟨[aL .module,.c 324 [.el .addr]],[rI],λx=>x.1.length<=1000000000000000000/\∀ c,KS.pre (c,x.2.1),λx=>(fidx (λc=>(KS.fn (c,x.2.1)).1) x.1 0,())⟩
abbrev Aw (l:(List Y_)) (u:(D_×Unit)):LInv:=⟨[⟨.s,8,true,.el .int⟩],λ_ (x:B_)=>0<=x.1/\x.1<=l.length/\fidx (λc=>(KS.fn (c,u)).1) l 0=fidx (λc=>(KS.fn (c,u)).1) (l.drop x.1.toNat) x.1,λ(x:B_)=>l.length-x.1.toNat⟩
def E65:=E64.a Bb<|Fct.p (KP [0,1,4,5,7,8] [9,16]) (λ⟨l,u,_⟩=>lv [(2,Aw l u)]) E64.2 func323 (by
 rintro⟨(l:List Y_),(u:aK),_⟩ hp;refine ho (lpx (Aw l u) ((0:Int),()) λ(y1:B_) bk1=>.br (decide (y1.1<(l.length:Int))) (.ob (inB y1.1 l.length)<|.cl KS (l.getD y1.1.toNat default,u.1,()) λz2=>.br (z2.1) (.lf Bb (y1.1,())) (.re (l)<|.re (enc Ty.addr u.1)<|.re (Value.int IntKind.i64 (l.length:Int))<|.bk (bk1 (w1 y1.1,())))) (.lf Bb ((-1:Int),()))) ?_;refine Am ?_ λ(y1:B_) i1=>Aa (λh2=>Ab ?_ λ_=>Ae trivial λ_=>Aa (λh4=>lfY ?_) λh4=>Ai<|Ai<|Ai<|AR ?_) (λh2=>lfY ?_)<;>(try simp only[std,Nat.reduceAdd] at *)<;>(try have hp2:=hp.2)<;>(try have hp1:=hp.1)<;>(first|trivial|omega|grind[FS,A_,HO,G_,F_,maxLen,fidx]))
def E66:=E65.a G9<|Fct.o [2,3,4] E65.2 func224 (by
 rintro⟨(p:C_),(a:D_),_⟩ hp;exact hq (.cl Bb (p.bh,(a,()),()) λ(z2:B_)=>.lf G9 (z2.1,())))
def isAsked (p:C_) (a:D_):Bool:=p.bf.any (λs=>decide (s.to=a))||p.bh.any (λm=>decide (m.to=a))
abbrev He:Fct:=⟨[.v (.el .page),.v (.el .addr)],[.el .bool],λ(x:aO)=>x.1.bh.length<=1000000000000/\x.1.bf.length<=1000000000000,λ(x:aO)=>(isAsked x.1 x.2.1,())⟩
abbrev CR (p:C_) (a:D_):LInv:=⟨[⟨.s,5,true,.el .int⟩,⟨.b,2,false,.el .page⟩,⟨.b,3,true,.el .addr⟩],λ(z x:eI)=>((0<=x.1/\x.1<=p.bf.length/\(p.bf.drop x.1.toNat).any (λs=>decide (s.to=a))=p.bf.any λs=>decide (s.to=a))/\x.2.1=z.2.1)/\x.2.2.1=z.2.2.1,λ(x:eI)=>p.bf.length-x.1.toNat⟩
def E67:=E66.a He<|Fct.p (KP [2,3,4,5] [10,20]) (λ⟨p,a,_⟩=>lv [(2,CR p a)]) E66.2 func167 (by
 rintro⟨(p:C_),(a:D_),_⟩ hp;exact hg (.lq (Int×C_×D_×PUnit) (CR p a).inv (CR p a).m ((0:Int),(p,(a,()))) λy1 bk1=>.br (decide (y1.1<(y1.2.1.bf.length:Int))) (.ob (inB y1.1 y1.2.1.bf.length)<|.br ((y1.2.1.bf.getD y1.1.toNat default).to.host==y1.2.2.1.host&&((y1.2.1.bf.getD y1.1.toNat default).to.path==y1.2.2.1.path&&true)) (.lf He (true,())) (.bk (bk1 (w1 y1.1,(y1.2.1,(y1.2.2.1,())))))) (.cl G9 (y1.2.1,y1.2.2.1,()) λ(z2:B_)=>.lf He (decide (z2.1>=0),()))) (an_ @isAsked.eq_1<|(Kz (λm:Y_=>decide (m.to=a)) p.bh 0 o_)))
abbrev FZ:Fct:=⟨[.v (.el .slot),.p (.el .addr)],[.el .bool],λ(x:ay×D_×Unit)=>True,λ(x:ay×D_×Unit)=>(decide (x.1.to=x.2.1),())⟩
def E68:=E67.a FZ<|Fct.o [1,2,3] E67.2 func237 (by
 rintro⟨(s:ay),(a:D_),_⟩ hp;exact hq (.lf FZ (s.to.host==a.host&&(s.to.path==a.path&&true),())))
abbrev Bg:Fct:=⟨[aL .slot,.c 237 [.el .addr]],[rI],λx=>x.1.length<=1000000000000000000/\∀ c,FZ.pre (c,x.2.1),λx=>(fidx (λc=>(FZ.fn (c,x.2.1)).1) x.1 0,())⟩
abbrev AD (l:(List ay)) (u:(D_×Unit)):LInv:=⟨[⟨.s,8,true,.el .int⟩],λ_ (x:B_)=>0<=x.1/\x.1<=l.length/\fidx (λc=>(FZ.fn (c,u)).1) l 0=fidx (λc=>(FZ.fn (c,u)).1) (l.drop x.1.toNat) x.1,λ(x:B_)=>l.length-x.1.toNat⟩
def E69:=E68.a Bg<|Fct.p (KP [0,1,4,5,7,8] [9,16]) (λ⟨l,u,_⟩=>lv [(2,AD l u)]) E68.2 func336 (by
 rintro⟨(l:List ay),(u:aK),_⟩ hp;refine ho (lpx (AD l u) ((0:Int),()) λ(y1:B_) bk1=>.br (decide (y1.1<(l.length:Int))) (.ob (inB y1.1 l.length)<|.cl FZ (l.getD y1.1.toNat default,u.1,()) λz2=>.br (z2.1) (.lf Bg (y1.1,())) (.re (l)<|.re (enc Ty.addr u.1)<|.re (Value.int IntKind.i64 (l.length:Int))<|.bk (bk1 (w1 y1.1,())))) (.lf Bg ((-1:Int),()))) ?_;refine Am ?_ λ(y1:B_) i1=>Aa (λh2=>Ab ?_ λ_=>Ae trivial λ_=>Aa (λh4=>lfY ?_) λh4=>Ai<|Ai<|Ai<|AR ?_) (λh2=>lfY ?_)<;>(try simp only[std,Nat.reduceAdd] at *)<;>(try have hp2:=hp.2)<;>(try have hp1:=hp.1)<;>(first|trivial|omega|grind[FS,A_,HO,G_,F_,maxLen,fidx]))
abbrev BD:Fct:=⟨[aL .slot,.c 237 [.el .addr]],[rB],λx=>x.1.length<=1000000000000000000/\∀ c,FZ.pre (c,x.2.1),λx=>(x.1.any λc=>(FZ.fn (c,x.2.1)).1,())⟩
def E70:=E69.a BD<|Fct.o [0,1,4] E69.2 func236 (by
 rintro⟨(l:List ay),(u:aK),_⟩ hp;refine ho (.cl Bg (l,(u.1,()),()) λ(z2:B_)=>.lf BD (decide (z2.1>=0),())) ?_;refine Ae ?_ λ_=>(lfY ?_)<;>(try simp only[std,Nat.reduceAdd] at *)<;>(first|trivial|omega|(rw[Bool.eq_iff_iff];exact decide_eq_true_iff.trans (Kz _ _ _ o_))))
def E71:=E70.a He<|Fct.o [2,3,4] E70.2 func136 (by
 rintro⟨(p:C_),(a:D_),_⟩ hp;exact hg (.cl G9 (p,a,()) λ(z2:B_)=>.br (decide (z2.1>=0)) (.lf He (true,())) (.cl BD (p.bf,(a,()),()) λz3=>.lf He (z3.1,()))) (an_ @isAsked.eq_1<|(Kz (λm:Y_=>decide (m.to=a)) p.bh 0 o_)))
abbrev H4:Fct:=⟨[.v (.el .page),.v (.el .addr)],[.el .bool],λ(x:aO)=>x.1.bh.length<=1000000000000/\x.1.bf.length<=1000000000000,λ(x:aO)=>(x.1.loaded && !isAsked x.1 x.2.1,())⟩
theorem q1 (p:C_) (a:D_) (hp:H4.pre (p,a,())):Out.holds (H4.ctr (p,a,())).post (.br (p.loaded) (.cl He (p,a,()) λz2=>.lf H4 (!z2.1,())) (.lf H4 (false,()))):=by
 refine Aa (λh1=>Ae ?_ λ_=>lfY ?_) λh1=>lfY ?_;all_goals
  try simp only[std,Nat.reduceAdd] at *
  try simp(disch:=omega) only[FS,A_] at *
  try simp(disch:=omega) only[I_,J_]
 all_goals first|trivial|omega|grind[FS,A_,HO,G_,F_,maxLen]
def E72:=E71.a H4<|Fct.o [2,3,4] E71.2 func106 (by
 rintro⟨(p:C_),(a:D_),_⟩ hp;exact ho _ (q1 p a hp))
def E73:=E72.a H4<|Fct.o [2,3,4] E72.2 func100 (by
 rintro⟨(p:C_),(a:D_),_⟩ hp;exact ho _ (q1 p a hp))
def wrongGuesses (l:N_):Int:=countIf (λg=>!g.used&&(l.page.loaded && !isAsked l.page g.to)) l.guesses
abbrev Dm:Fct:=⟨[.v (.el .loader)],[.el .int],λ(x:aD)=>x.1.guesses.length<=1000000000000/\x.1.page.bh.length<=1000000000000/\x.1.page.bf.length<=1000000000000,λ(x:aD)=>(wrongGuesses x.1,())⟩
abbrev Cn (l:N_):LInv:=⟨[⟨.s,3,true,.el .int⟩,⟨.s,4,true,.el .int⟩,⟨.b,1,false,.el .loader⟩],λ(z x:bA)=>(0<=x.2.1/\x.2.1<=l.guesses.length/\0<=x.1/\x.1<=x.2.1/\x.1+countIf (λg=>!g.used&&(l.page.loaded && !isAsked l.page g.to)) (l.guesses.drop x.2.1.toNat)=wrongGuesses l)/\x.2.2.1=z.2.2.1,λ(x:bA)=>l.guesses.length-x.2.1.toNat⟩
def E74:=E73.a Dm<|Fct.p (KP [1,2,3,4] [9,29]) (λ⟨l,_⟩=>lv [(3,Cn l)]) E73.2 func29 (by
 rintro⟨(l:N_),_⟩ hp;refine ho (let M_:=Value.int IntKind.i64 (0:Int);lpx (Cn l) ((0:Int),((0:Int),(l,()))) λ(y1:bA) bk1=>let L_:=inB y1.2.1 y1.2.2.1.guesses.length;let H_:=y1.2.2.1.guesses.getD y1.2.1.toNat default;let E_:Out:=.re M_<|.bk (bk1 (y1.1,(w1 y1.2.1,(y1.2.2.1,()))));.br (decide (y1.2.1<(y1.2.2.1.guesses.length:Int))) (.ob L_<|.br (!H_.used) (.ob L_<|.cl H4 (y1.2.2.1.page,H_.to,()) λz2=>.br (z2.1) (.re M_<|.bk (bk1 (w1 y1.1,(w1 y1.2.1,(y1.2.2.1,()))))) E_) E_) (.lf Dm (y1.1,()))) ?_;refine Am ?_ λ(y1:bA) i1=>Aa (λh2=>Ab ?_ λ_=>Aa (λh4=>Ab ?_ λ_=>Ae ?_ λ_=>Aa (λh7=>Ai<|AR ?_) λh7=>Ai<|AR ?_) λh4=>Ai<|AR ?_) (λh2=>lfY ?_)<;>(try simp only[std,Nat.reduceAdd,wrongGuesses,countIf,O_] at *)<;>(try simp(disch:=omega) only[FS,A_] at *)<;>(try simp(disch:=omega) only[I_,J_])<;>(first|trivial|omega|grind[FS,A_,HO,G_,F_,maxLen,wrongGuesses,countIf,O_]))
abbrev Cm (l:N_):LInv:=⟨[⟨.s,3,true,.el .int⟩,⟨.s,9,true,.el .int⟩,⟨.b,1,false,.el .loader⟩],λ(z x:bA)=>(0<=x.2.1/\x.2.1<=l.guesses.length/\0<=x.1/\x.1<=x.2.1/\x.1+countIf (λg=>!g.used&&(l.page.loaded && !isAsked l.page g.to)) (l.guesses.drop x.2.1.toNat)=wrongGuesses l)/\x.2.2.1=z.2.2.1,λ(x:bA)=>l.guesses.length-x.2.1.toNat⟩
def E75:=E74.a Dm<|Fct.p (KP [1,2,3,5,7,8,9] [10,22]) (λ⟨l,_⟩=>lv [(3,Cm l)]) E74.2 func24 (by
 rintro⟨(l:N_),_⟩ hp;refine ho (let M_:=Value.int IntKind.i64 (0:Int);let H_:=(l.guesses.length:Int);let Q_:=Value.int IntKind.i64 H_;lpx (Cm l) ((0:Int),((0:Int),(l,()))) λ(y1:bA) bk1=>let L_:=l.guesses.getD y1.2.1.toNat default;let E_:Out:=.re M_<|.re (l.guesses)<|.re Q_<|.bk (bk1 (y1.1,(w1 y1.2.1,(y1.2.2.1,()))));.br (decide (y1.2.1<H_)) (.ob (inB y1.2.1 l.guesses.length)<|.br (!L_.used) (.cl H4 (y1.2.2.1.page,L_.to,()) λz2=>.br (z2.1) (.re M_<|.re (l.guesses)<|.re Q_<|.bk (bk1 (w1 y1.1,(w1 y1.2.1,(y1.2.2.1,()))))) E_) E_) (.lf Dm (y1.1,()))) ?_;refine Am ?_ λ(y1:bA) i1=>Aa (λh2=>Ab ?_ λ_=>Aa (λh4=>Ae ?_ λ_=>Aa (λh6=>Ai<|Ai<|Ai<|AR ?_) λh6=>Ai<|Ai<|Ai<|AR ?_) λh4=>Ai<|Ai<|Ai<|AR ?_) (λh2=>lfY ?_)<;>(try simp only[std,Nat.reduceAdd,wrongGuesses,countIf,O_] at *)<;>(try simp(disch:=omega) only[FS,A_] at *)<;>(try simp(disch:=omega) only[I_,J_])<;>(first|trivial|omega|grind[FS,A_,HO,G_,F_,maxLen,wrongGuesses,countIf,O_]))
abbrev HQ:Fct:=⟨[],[rI],λ_=>True,λ_=>(2520,())⟩
def E76:=E75.a HQ<|Fct.o [0] E75.2 func23 (by
 rintro⟨_⟩ hp;refine ho (.lf HQ ((2520:Int),())) ?_;refine lfY ?_;all_goals try simp only[std,Nat.reduceAdd] at *
 all_goals first|trivial|omega|(simp_all;done)|(simp_all;omega)|grind)
def isThrifty (l:N_):Bool:=decide (loaderWaste l<=2520)&&decide (countIf (λg=>!g.used) l.guesses+countGuess l.conns<=6)
abbrev Iu:Fct:=⟨[.v (.el .loader)],[.el .bool],λ(x:aD)=>x.1.guesses.length<=4194304/\x.1.conns.length<=1048576/\loaderWaste x.1<=1000000000000,λ(x:aD)=>(isThrifty x.1,())⟩
def E77:=E76.a Iu<|Fct.o [1,2] E76.2 func21 (by
 rintro⟨(l:N_),_⟩ hp;refine ho (.cl C9 (l,()) λ(z2:B_)=>.cl HQ () λ(z3:B_)=>.br (decide (z2.1<=z3.1)) (.cl Hz (l.guesses,()) λ(z4:B_)=>.cl NX (l.conns,()) λ(z5:B_)=>.lf Iu (decide (wr (z4.1+z5.1)<=6),())) (.lf Iu (false,()))) ?_;refine Ae ?_ λ_=>(Ae trivial λ_=>Aa (λh2=>Ae ?_ λ_=>Ae ?_ λ_=>lfY ?_) λh2=>lfY ?_)<;>(have hc2:=O_ (λg:au=>!g.used) l.guesses;have hc3:=IF l.conns;try simp only[std,Nat.reduceAdd,isThrifty] at *)<;>(try simp(disch:=omega) only[FS,A_] at *)<;>(try simp(disch:=omega) only[I_,J_])<;>(first|trivial|omega|grind[FS,A_,HO,G_,F_,maxLen,isThrifty]))
def Jj {l:List ax} {i:Nat} (h:i<l.length):(l.getD i default).files.length+l.length<=szL An l:=by
 have:=C6 An h;have h2:=Ac Is (l.getD i default).files;simp only[An] at this;omega
abbrev AhL:Fct:=⟨[aI,aI],[rI],λ_=>True,λ(x:ah)=>(min x.1 x.2.1,())⟩
def E78:=E77.a AhL<|Fct.o (KP [0,1,4] [7]) E77.2 func306 (by
 rintro⟨(a:Int),(b:Int),_⟩ hp;refine ho (.br (decide (b<a)) (.lf AhL (b,())) (.lf AhL (a,()))) ?_;refine Aa (λh1=>lfY ?_) λh1=>lfY ?_;all_goals try simp only[std,Nat.reduceAdd] at *
 all_goals first|trivial|omega|(simp_all;done)|(simp_all;omega)|grind)
def UL {α:Type} (f:α->Nat) (l m:List α):szL f (l++m)=szL f l+szL f m:=by simp[szL];omega
def Re {α:Type} (f:α->Nat) (l:List α) (n:Nat):szL f (l.drop n)<=szL f l:=by
 have h:=UL f (l.take n) (l.drop n);simp_all
abbrev J5:GS:=⟨[.g (.sl .conn),.l (.v (.el .int)),.l (.v (.el .int))],[.sl .conn],λ(x:fH)=>0<=x.2.1/\x.2.1<x.2.2.1/\x.2.2.1<=x.1.length/\x.1.length<=1048576,λ(x:fH)=>((x.1.take x.2.1.toNat++x.1.drop x.2.2.1.toNat,()),(()))⟩
def AdJ {l:List V_} {i j:Int} (h0:0<=i) (hi:i<=j) (hj:j<=l.length) (ys:List V_) {k k' m n j':Nat} (hjj:j'=j.toNat) (hm:m=l.length-j.toNat) (hk:k=i.toNat+m) (hk':k'=k) (hn:n=i.toNat):l.take i.toNat++l.drop j.toNat=cut (K3 (K3 l n (cut l j' m)) k ys) 0 k':=by
 subst hjj;subst hk';subst hk;subst hn;rw[AcL _ _ _ (by rw[I1,L1];omega),Aa4 o_ o_ hm]
def Aa8 {l:List V_} {i:Int} (h0:0<=i) (hj:i<l.length) {k m n j':Nat} (hjj:j'=i.toNat+1) (hm:m=l.length-j') (hk:k=i.toNat+m) (hn:n=i.toNat):cut (K3 l n (cut l j' m)) 0 k=l.take i.toNat++l.drop (i.toNat+1):=by
 subst hk;subst hn;rw[show cut (K3 l i.toNat (cut l j' m)) 0 (i.toNat+m)=(K3 l i.toNat (cut l j' m)).take (i.toNat+m) from rfl,Aa4 o_ o_ hm,hjj]
def E79:=E78.G J5<|GS.of (S:=J5) (L:=λ_ _=>none) (kp:=(KP [0,1,2,6,7] [16])) E78.2 func142 k_ k_ (by
 rintro⟨(l:List V_),(i:Int),(j:Int),_⟩ hp;refine ho (let Q_:=List.length l-Int.toNat j;let L_:=(↑(List.length l):Int);let H_:=K3 l (Int.toNat i-0) (cut l (Int.toNat j) Q_);let E_:=Int.toNat i-0+Q_;let U_:=L_.toNat-(E_:Int).toNat;let M_:=K3 H_ (0+(E_:Int).toNat) (List.replicate U_ default);.ob (0<=i/\i<=j/\j<=L_/\L_<=L_)<|.br (i==j) (GS.out J5 ((l,()),(()))) (.ob (0<=i/\i<=L_)<|.ob (0<=j/\j<=L_)<|.ob (0=0/\0<List.length l/\Int.toNat j+Q_<=List.length l/\Int.toNat i-0+Q_<=List.length l)<|.ob ((0:Int)<=(E_:Int)/\(E_:Int)<=L_/\L_<=(↑(H_.length-0):Int))<|.ob (0+(E_:Int).toNat+U_<=H_.length)<|.ob (0+E_<=M_.length)<|GS.out J5 ((cut M_ 0 E_,()),(())))) ?_;repeat' (guard_target =~ Out.holds _ _;first|refine GS.leafY ?_|refine Aa (λ_=>?_) λ_=>?_|refine Ab ?_ λ_=>?_)
 all_goals (try simp only[std,Nat.reduceAdd] at *)<;>(first|omega|(simp only[I1,L1,List.length_replicate] at *;omega)|exact(AdJ o_ o_ o_ _ rfl rfl o_ o_ o_).symm))
def closeConn (l:List V_) (i:Int):List V_:=if 0<=i/\i<l.length then l.take i.toNat++l.drop (i.toNat+1) else l
def RV (l:List V_) (i:Int):(closeConn l i).length<=l.length:=by unfold closeConn;split<;>simp<;>omega
abbrev Ef:Fct:=⟨[.v (.sl .conn),.v (.el .int)],[.sl .conn],λ(x:fy)=>x.1.length<=1048576,λ(x:fy)=>(closeConn x.1 x.2.1,())⟩
def E80:=E79.a Ef<|Fct.o (KP [0,1,4,5] [14]) E79.2 func169 (by
 rintro⟨(l:List V_),(i:Int),_⟩ hp;refine ho (let L_:=(↑([]++l).length:Int);let E_:=([]++l).length-(w1 i).toNat;let M_:=Int.toNat i-0+E_;let H_:=K3 ([]++l) (Int.toNat i-0) (cut ([]++l) (w1 i).toNat E_);.ap (0+List.length l) 112<|.cl Au (i,(0:Int),wr ((↑(List.length l):Int)-(1:Int)),()) λz2=>.br (!z2.1) (.lf Ef ([]++l,())) (.ob (0<=i/\i<=L_)<|.ob (0<=w1 i/\w1 i<=L_)<|.ob (0=0/\0<([]++l).length/\(w1 i).toNat+E_<=([]++l).length/\Int.toNat i-0+E_<=([]++l).length)<|.ob (0+M_<=H_.length)<|.lf Ef (cut H_ 0 M_,()))) ?_;refine Ed ?_ λ_=>Ae trivial λ_=>(Aa (λh2=>lfY ?_) λh2=>Ab ?_ λ_=>Ab ?_ λ_=>Ab ?_ λ_=>Ab ?_ λ_=>lfY ?_)<;>(try simp only[std,Nat.reduceAdd,closeConn,inRange] at *)<;>(try simp(disch:=omega) only[FS,A_] at *)<;>(try simp(disch:=omega) only[I_,J_])<;>(try simp only[I1,L1,List.length_replicate,Z_,ep,aH,ca] at *)<;>(first|omega|(rw[J_ o_];done)|exact Aa8 o_ o_ o_ o_ o_ o_))
def E81:=E80.a Ef<|Fct.o (KP [0,1,4,5] [15]) E80.2 func56 (by
 rintro⟨(l:List V_),(i:Int),_⟩ hp;exact hg (.cl Hr (l,()) λz2=>.br (decide (i<0)) (.lf Ef (z2.1,())) (.br (decide (i>=(↑(List.length l):Int))) (.lf Ef (z2.1,())) (.ob (J5.pre (z2.1,i,w1 i,()))<|.lt _ (J5.fn (z2.1,i,w1 i,())) λz3=>.lf Ef (z3.1.1,())))) (an_ @closeConn.eq_1<|@inRange.eq_1))
def hasI (l:List Int) (i:Int):Bool:=l.any λc=>decide (c=i)
def isCut (cs:List Int) (i:Int):Bool:=hasI (cs.take 7) i
def pieces (s:ByteArray):List Int->Int->List ByteArray
 | [],a=>[s.extract a.toNat s.size]
 | n::l,a=>s.extract a.toNat n.toNat::pieces s l n
def cutGo (s:ByteArray) (cs:List Int):Nat->Int->Int->List ByteArray
 | 0,_,a=>[s.extract a.toNat s.size]
 | f+1,i,a=>if isCut cs i then s.extract a.toNat i.toNat::cutGo s cs f (i+1) i else cutGo s cs f (i+1) a
def cutText (s:ByteArray) (cs:List Int):List ByteArray:=cutGo s cs (s.size-1) 1 0
def rngs (n:Int):List Int->List Int
 | []=>[]
 | x::l=>if inRange x 1 n then x::rngs n l else rngs n l
def QB (n:Int):∀ l,rngs n l=l.filter λx=>inRange x 1 n
 | []=>rfl
 | x::l=>by rw[rngs,QB n l,List.filter_cons]
theorem fA {n:Int} {l:List Int} {i:Nat} (h:i<l.length):rngs n (l.drop i)=if inRange (l.getD i default) 1 n then l.getD i default::rngs n (l.drop (i+1)) else rngs n (l.drop (i+1)):=by rw[HO h];rfl
def AcP {n:Int} {l:List Int} {i:Nat} (h:l.length<=i):rngs n (l.drop i)=[]:=by rw[bR h];rfl
def cutAts (s:ByteArray) (cs:List Int):List Int:=rngs (s.size-1) (cs.take 7)
def TF (s:ByteArray) (cs:List Int):∀ (f:Nat) (i a:Int) (l:List Int),l.Pairwise (· < ·)->(∀ x,x∈l↔(i<=x/\x<i+f/\isCut cs x=true))->cutGo s cs f i a=pieces s l a:=by
 intro f
 induction f with
 | zero=>
  intro i a l _ hm;cases l with
  | nil=>rfl
  | cons x l=>have:=(hm x).1 cZ;omega
 | succ f ih=>
  intro i a l hp hm;simp only[cutGo];split
  ·rename_i hc;have hi:i∈l:=(hm i).2 ⟨o_,o_,hc⟩;cases l with
   | nil=>cases hi
   | cons x l=>
    have hp':=List.pairwise_cons.1 hp;have hx:x=i:=by
     rcases cp.1 hi with e|h
     ·exact e.symm
     ·have h1:=hp'.1 i h;have h2:=((hm x).1 cZ).1;omega
    subst hx;rw[pieces,ih (x+1) x l hp'.2 λy=>?_];constructor
    ·intro hy;obtain⟨h1,h2,h3⟩:=(hm y).1 (cJ _ hy);have:=hp'.1 y hy;exact⟨o_,o_,h3⟩
    ·rintro⟨h1,h2,h3⟩;rcases cp.1 ((hm y).2 ⟨o_,o_,h3⟩) with e|h
     ·omega
     ·exact h
  ·rename_i hc;refine ih (i+1) a l hp λy=>?_
   rw[hm y];constructor
   ·rintro⟨h1,h2,h3⟩;have:y≠i:=λe=>hc (e▸h3)
    exact⟨o_,o_,h3⟩
   ·rintro⟨h1,h2,h3⟩;exact⟨o_,o_,h3⟩
def Ic (s:ByteArray) (cs:List Int):cutText s cs=pieces s (B8 (R5 (cutAts s cs))) 0:=by
 refine TF s cs _ _ _ _ (VG (le:=λa b=>a<=b) (λa b h1 h2=>o_) (λa b c h1 h2=>o_) (M9 _)) λx=>?_
 rw[Mw,Tm,cutAts,QB,List.mem_filter,isCut,hasI,cq];simp only[inRange,Z_,aH];constructor
 ·rintro⟨h1,h2,h3⟩;exact⟨o_,o_,x,h1,rfl⟩
 ·rintro⟨h1,h2,c,h3,rfl⟩;exact⟨h3,o_,o_⟩
abbrev AbV:GS:=⟨[.k (.sl .int)],[],λ(x:W_)=>x.1.length<4611686018427387904,λ(x:W_)=>((()),(R5 x.1,()))⟩
def YF:Go.Proofs.Lays.n189 Tryz.prog laysCmp_r:=by repeat' first|kernel_rfl|constructor|intro _
def E82:=E81.G AbV<|Vm YF rfl
abbrev HI:GS:=⟨[.g (.sl .int)],[.sl .int],λ(x:W_)=>x.1.length<=1000000000000,λ(x:W_)=>((B8 x.1,()),(()))⟩
abbrev Cj (s:(List Int)):LInv:=⟨[⟨.s,3,true,.el .int⟩,⟨.t,0,true,.sl .int⟩],λ_ (x:eJ)=>1<=x.1/\x.1<=s.length/\x.2.1=s/\B8 (s.take x.1.toNat)=s.take x.1.toNat,λ(x:eJ)=>s.length-x.1.toNat⟩
abbrev Ck (s:(List Int)):LInv:=⟨[⟨.s,3,true,.el .int⟩,⟨.s,5,true,.el .int⟩,⟨.t,0,true,.sl .int⟩],λ(z x:eK)=>CompInv s x.2.2.1 z.1 x.1 x.2.1,λ(x:eK)=>s.length-x.2.1.toNat⟩
def E83:=E82.G HI<|GS.of (S:=HI) (L:=λ⟨s,_⟩=>λ|4=>some (Cj s)|9=>some (Ck s)|_=>none) (kp:=(KP [0,2,3,4,5] [8,13,25,32,44])) E82.2 func91 k_ k_ (by
 rintro⟨(s:List Int),_⟩ hp;refine ho (.br (decide ((s.length:Int)<2)) (GS.out HI ((s,()),(()))) (lpx (Cj s) ((1:Int),(s,())) λ(y2:eJ) bk2=>let aF:=y2.1.toNat=y2.1.toNat;let aj:=(y2.2.1.length:Int);let Q_:=y2.1-(1:Int);let M_:=y2.2.1.length-y2.1.toNat=y2.2.1.length-y2.1.toNat;let H_:=(↑(y2.2.1.length-y2.1.toNat):Int);.br (decide (y2.1<aj)) (.ob (inB y2.1 y2.2.1.length)<|.ob (y2.1.toNat<y2.2.1.length)<|.ob (0<=wr Q_/\wr Q_<aj)<|.ob ((wr Q_).toNat<y2.2.1.length)<|.br (y2.2.1.getD y2.1.toNat default==y2.2.1.getD (wr Q_).toNat default) (.ob (0<=y2.1/\y2.1<=aj)<|lpx (Ck s) (y2.1,((1:Int),(y2.2.1,()))) λ(y10:eK) bk10=>let bL:=y2.1.toNat+y10.2.1.toNat;let aU:=y10.2.2.1.length-y10.1.toNat;let aC:=0<=y10.2.1/\y10.2.1<H_;let U_:=y2.1.toNat+y10.2.1.toNat<y10.2.2.1.length;let L_:=y10.2.1-(1:Int);let E_:=K3 y10.2.2.1 y10.1.toNat (List.replicate aU (0:Int));.br (decide (y10.2.1<H_)) (.ob aC<|.ob U_<|.ob (0<=wr L_/\wr L_<H_)<|.ob (y2.1.toNat+(wr L_).toNat<y10.2.2.1.length)<|.br (y10.2.2.1.getD bL default != y10.2.2.1.getD (y2.1.toNat+(wr L_).toNat) default) (.ob aC<|.ob U_<|.ob (inB y10.1 y10.2.2.1.length)<|.ob (y10.1.toNat<y10.2.2.1.length)<|.lt (List Int) (y10.2.2.1.modify y10.1.toNat λz=>y10.2.2.1.getD bL default) λz2=>.ob aF<|.ob M_<|.ob (bk10 (w1 y10.1,(w1 y10.2.1,(z2,()))))<|.ok) (.ob aF<|.ob M_<|.ob (bk10 (y10.1,(w1 y10.2.1,(y10.2.2.1,()))))<|.ok)) (.ob (0<=y10.1/\y10.1<=(y10.2.2.1.length:Int))<|.ob (y10.1.toNat+aU<=y10.2.2.1.length)<|.ob (0<=y10.1/\y10.1<=(E_.length:Int))<|.ob (0+(y10.1.toNat-0)<=E_.length)<|GS.out HI ((cut E_ 0 (y10.1.toNat-0),()),(())))) (.ob (bk2 (w1 y2.1,(y2.2.1,())))<|.ok)) (GS.out HI ((y2.2.1,()),(()))))) ?_;refine Aa (λh1=>GS.leafY ?_) λh1=>Am ?_ λ(y2:eJ) i2=>Aa (λh3=>Ab ?_ λ_=>Ab ?_ λ_=>Ab ?_ λ_=>Ab ?_ λ_=>Aa (λh8=>Ab ?_ λ_=>Am ?_ λ(y10:eK) i10=>Aa (λh11=>Ab ?_ λ_=>Ab ?_ λ_=>Ab ?_ λ_=>Ab ?_ λ_=>Aa (λh16=>Ab ?_ λ_=>Ab ?_ λ_=>Ab ?_ λ_=>Ab ?_ λ_=>DS (Ab rfl λ_=>Ab rfl λ_=>Ab ?_ λ_=>trivial)) λh16=>Ab rfl λ_=>Ab rfl λ_=>Ab ?_ λ_=>trivial) λh11=>Ab ?_ λ_=>Ab ?_ λ_=>Ab ?_ λ_=>Ab ?_ λ_=>GS.leafY ?_) λh8=>Ab ?_ λ_=>trivial) λh3=>GS.leafY ?_;all_goals try have cI:=i10
 all_goals (try obtain⟨c1,c2,c3,c4,c5,c6,c7,c8⟩:=cI;clear c7 c8)<;>(try obtain⟨d1,d2,d3,d4⟩:=i2;simp only[d3] at *)<;>(try simp only[std,Nat.reduceAdd] at *)<;>(try simp(disch:=omega) only[FS] at *)<;>(try simp only[I1,List.length_replicate] at *)<;>(first|trivial|omega|skip)
 ·exact(PI _ o_).symm
 ·exact⟨o_,o_,PI _ (by simp;omega)⟩
 ·exact Xp d1 o_ d4 h8
 ·exact⟨AdT i10 o_ h16,o_⟩
 ·exact⟨ZB i10 o_ h16,o_⟩
 ·exact Ad9 i10 o_ _
 ·exact⟨⟨o_,o_,ZQ d1 o_ d4 h8⟩,o_⟩
 ·rw[ct o_] at d4;exact d4.symm)
abbrev LD:Fct:=⟨[.v (.el .str),.v (.sl .int)],[.sl .str],λ(x:fI)=>x.1.size<=1048576/\x.2.1.length<=1048576,λ(x:fI)=>(cutText x.1 x.2.1,())⟩
def Qa (s:ByteArray) (cs:List Int):(cutAts s cs).length<=7:=by
 have h1:=List.length_filter_le (λn=>inRange n 1 (s.size-1)) (cs.take 7);rw[<-QB] at h1;have h2:(cs.take 7).length<=7:=by rw[bS];omega
 unfold cutAts;omega
def cutPos (s:ByteArray) (cs:List Int):List Int:=B8 (R5 (cutAts s cs))
def Pr {s:ByteArray} {cs:List Int} {x:Int} (h:x∈cutPos s cs):1<=x/\x<=s.size-1:=by
 rw[cutPos,Mw,Tm,cutAts,QB,List.mem_filter] at h;simpa [inRange] using h.2
def YQ (s:ByteArray) (cs:List Int):(cutPos s cs).Pairwise (· < ·):=VG (le:=λa b=>a<=b) (λa b h1 h2=>o_) (λa b c h1 h2=>o_) (M9 _)
def Pq (s:ByteArray) (cs:List Int):(cutPos s cs).length<=7:=by
 have h1:=Xm (R5 (cutAts s cs));have h2:=NE (cutAts s cs);have h3:=Qa s cs;unfold cutPos;omega
theorem fh {s:ByteArray} {l:List Int} {i:Nat} {a:Int} (h:i<l.length):pieces s (l.drop i) a=s.extract a.toNat (l.getD i default).toNat::pieces s (l.drop (i+1)) (l.getD i default):=by rw[HO h];rfl
theorem ez {s:ByteArray} {l:List Int} {i:Nat} {a:Int} (h:l.length<=i):pieces s (l.drop i) a=[s.extract a.toNat s.size]:=by rw[bR h];rfl
structure CutInv (s:ByteArray) (cs:List Int) (l:List Int) (j:Nat) (a:Int):Prop where
 e:l=cutPos s cs
 h:∀ x∈l.drop j,a<=x
 a0:0<=a
 a1:a<=s.size
def CutInv.get {s:ByteArray} {cs l:List Int} {j:Nat} {a:Int} (h:CutInv s cs l j a) (hj:j<l.length):a<=l.getD j default/\l.getD j default<=s.size/\CutInv s cs l (j+1) (l.getD j default):=by
 obtain⟨e,h,a0,a1⟩:=h;have hm:l.getD j default∈l:=by rw[Aa2 hj];exact List.getElem_mem hj
 have hb:1<=l.getD j default/\l.getD j default<=s.size-1:=Pr (by rw[<-e];exact hm);have hp:=YQ s cs;rw[<-e,<-eg j l,List.pairwise_append,HO hj] at hp;refine⟨h _ (by rw[HO hj];exact cZ),o_,e,λx hx=>?_,o_,o_⟩;exact Int.le_of_lt ((List.pairwise_cons.1 hp.2.1).1 x hx)
def CutInv.zero (s:ByteArray) (cs:List Int):CutInv s cs (cutPos s cs) 0 0:=⟨rfl,λx hx=>by have:=Pr (by simpa using hx);omega,o_,o_⟩
def AcZ {l:List Int} {k:Nat} {i:Int} (h:k<l.length):hasI (l.take (k+1)) i=(hasI (l.take k) i||decide (l.getD k default=i)):=by
 rw[S_ h];simp[hasI]
def XV {s:ByteArray} {cs:List Int} {f:Nat} {i a:Int} (h:0<f):cutGo s cs f i a=if isCut cs i then s.extract a.toNat i.toNat::cutGo s cs (f-1) (i+1) i else cutGo s cs (f-1) (i+1) a:=by
 obtain⟨n,rfl⟩:∃ n,f=n+1:=⟨f-1,o_⟩;rfl
def ZM (cs:List Int) (i:Int):hasI (cs.take (min cs.length 7)) i=isCut cs i:=by
 unfold isCut;congr 1;rcases Nat.le_total cs.length 7 with h|h
 ·rw[Nat.min_eq_left h,List.take_length,ct h]
 ·rw[Nat.min_eq_right h]
def Abf (l:List Int) (i:Int):hasI (l.take 0) i=false:=by simp[hasI]
def AdK {cs:List Int} {i k:Int} (h1:min (cs.length:Int) 7<=k) (h2:k<=cs.length) (h3:k<=7):hasI (cs.take k.toNat) i=isCut cs i:=by
 rw[<-ZM];congr 2;omega
def AbU {s:ByteArray} {cs:List Int} {f:Nat} {i a:Int} (h:f=0):cutGo s cs f i a=[s.extract a.toNat s.size]:=by subst h;rfl
def AiI (cs:List Int):cut cs 0 ((if(7:Int)<cs.length then(7:Int) else cs.length).toNat-0)=cs.take 7:=by
 simp only[cut,dt];split
 ·rfl
 ·rw[ct o_,ct o_]
abbrev ES (s:ByteArray) (cs:(List Int)):LInv:=⟨[⟨.s,5,true,.sl .str⟩,⟨.s,6,true,.el .int⟩,⟨.s,8,true,.el .int⟩],λ_ (x:dA)=>1<=x.2.2.1/\(x.2.2.1<=s.size\/x.2.2.1=1)/\0<=x.2.1/\x.2.1<x.2.2.1/\x.2.1<=s.size/\x.1.length<=x.2.2.1/\x.1++cutGo s cs (s.size-x.2.2.1.toNat) x.2.2.1 x.2.1=cutText s cs,λ(x:dA)=>s.size-x.2.2.1.toNat⟩
abbrev EW (s:ByteArray) (cs:(List Int)):LInv:=⟨[⟨.s,9,true,.el .bool⟩,⟨.s,10,true,.el .int⟩,⟨.s,5,true,.sl .str⟩,⟨.s,6,true,.el .int⟩,⟨.s,8,true,.el .int⟩],λ(z x:fJ)=>x.2.2.1=z.2.2.1/\x.2.2.2.1=z.2.2.2.1/\x.2.2.2.2.1=z.2.2.2.2.1/\0<=x.2.1/\x.2.1<=cs.length/\x.2.1<=7/\x.1=hasI (cs.take x.2.1.toNat) x.2.2.2.2.1,λ(x:fJ)=>7-x.2.1.toNat⟩
def E84:=E83.a LD<|Fct.p (KP [0,1,4,5,6,7,8,9,10] [18,23,35]) (λ⟨s,cs,_⟩=>λ|5=>some (ES s cs)|9=>some (EW s cs)|_=>none) E83.2 func199 (by
 rintro⟨(s:ByteArray),(cs:List Int),_⟩ hp;exact hg (let Q_:=(s.size:Int);let M_:=EW s cs;let L_:=ES s cs;let H_:=Value.string s;.cl AhL ((cs.length:Int),(7:Int),()) λ(z2:B_)=>let E_:=Value.int IntKind.i64 z2.1;.lq (List ByteArray×Int×Int×PUnit) L_.inv L_.m ([],((0:Int),((1:Int),()))) λy1 bk1=>.br (decide (y1.2.2.1<Q_)) (.lq (Bool×Int×List ByteArray×Int×Int×PUnit) M_.inv M_.m (false,((0:Int),(y1.1,(y1.2.1,(y1.2.2.1,()))))) λy3 bk3=>.br (decide (y3.2.1<z2.1)) (.br (y3.1) (.re H_<|.re (cs)<|.re E_<|.bk (bk3 (true,(w1 y3.2.1,(y3.2.2.1,(y3.2.2.2.1,(y3.2.2.2.2.1,()))))))) (.ob (inB y3.2.1 cs.length)<|.re H_<|.re (cs)<|.re E_<|.bk (bk3 (cs.getD y3.2.1.toNat default==y3.2.2.2.2.1,(w1 y3.2.1,(y3.2.2.1,(y3.2.2.2.1,(y3.2.2.2.2.1,())))))))) (.br (y3.1) (.ob (0<=y3.2.2.2.1/\y3.2.2.2.1<=y3.2.2.2.2.1/\y3.2.2.2.2.1<=Q_)<|.ap (y3.2.2.1.length+[s.extract y3.2.2.2.1.toNat y3.2.2.2.2.1.toNat].length) 16<|.re H_<|.re (cs)<|.re E_<|.bk (bk1 (y3.2.2.1++[s.extract y3.2.2.2.1.toNat y3.2.2.2.2.1.toNat],(y3.2.2.2.2.1,(w1 y3.2.2.2.2.1,()))))) (.re H_<|.re (cs)<|.re E_<|.bk (bk1 (y3.2.2.1,(y3.2.2.2.1,(w1 y3.2.2.2.2.1,()))))))) (.ob (0<=y1.2.1/\y1.2.1<=Q_)<|.ap (y1.1.length+[s.extract y1.2.1.toNat s.size].length) 16<|.lf LD (y1.1++[s.extract y1.2.1.toNat s.size],()))) (an_ @cutText.eq_1<|an_ @XV<|an_ @AbU<|an_ @AcZ<|an_ @AdK<|@Abf))
abbrev EM (s:ByteArray) (cs:(List Int)):LInv:=⟨[⟨.s,5,true,.sl .int⟩,⟨.s,19,true,.el .int⟩],λ_ (x:an)=>0<=x.2.1/\x.2.1<=(cs.take 7).length/\x.1.length<=x.2.1/\x.1++rngs (s.size-1) ((cs.take 7).drop x.2.1.toNat)=cutAts s cs,λ(x:an)=>7-x.2.1.toNat⟩
abbrev Et (s:ByteArray) (cs:(List Int)):LInv:=⟨[⟨.s,8,true,.sl .str⟩,⟨.s,9,true,.el .int⟩,⟨.s,39,true,.el .int⟩,⟨.s,37,true,.sl .int⟩],λ_ (x:eL)=>CutInv s cs x.2.2.2.1 x.2.2.1.toNat x.2.1/\0<=x.2.2.1/\x.2.2.1<=x.2.2.2.1.length/\x.1.length<=x.2.2.1/\x.1++pieces s (x.2.2.2.1.drop x.2.2.1.toNat) x.2.1=cutText s cs,λ(x:eL)=>(cutPos s cs).length-x.2.2.1.toNat⟩
def E85:=E84.a LD<|Fct.p (KP [0,1,4,5,7,8,9,11,17,18,19,37,38,39] [20,27,40]) (λ⟨s,cs,_⟩=>λ|3=>some (EM s cs)|12=>some (Et s cs)|_=>none) E84.2 func17 (by
 rintro⟨(s:ByteArray),(cs:List Int),_⟩ hp;refine ho (let aC:=Value.string s;let aj:=(s.size:Int);let H_:=(cs.length:Int);let M_:=if(7:Int)<H_ then(7:Int) else H_;let E_:=cut cs 0 (M_.toNat-0);let U_:=(E_.length:Int);let L_:=Value.int IntKind.i64 U_;.ob ((0<=if(7:Int)<H_ then(7:Int) else H_)/\M_<=H_)<|lpx (EM s cs) ([],((0:Int),())) λ(y2:an) bk2=>.br (decide (y2.2.1<U_)) (.ob (0<=y2.2.1/\y2.2.1<U_)<|.cl Au (E_.getD y2.2.1.toNat default,(1:Int),wr (aj-(1:Int)),()) λz2=>.br (z2.1) (.ap (y2.1.length+[E_.getD y2.2.1.toNat default].length) 8<|.re aC<|.re (cs)<|.re E_<|.re L_<|.bk (bk2 (y2.1++[E_.getD y2.2.1.toNat default],(w1 y2.2.1,())))) (.re aC<|.re (cs)<|.re E_<|.re L_<|.bk (bk2 (y2.1,(w1 y2.2.1,()))))) (.ob (AbV.pre (y2.1,()))<|.lt _ (AbV.fn (y2.1,())) λz3=>.ob (HI.pre (z3.2.1,()))<|.lt _ (HI.fn (z3.2.1,())) λz4=>let aU:=(z4.1.1.length:Int);lpx (Et s cs) ([],((0:Int),((0:Int),(z4.1.1,())))) λ(y11:eL) bk11=>let Q_:=y11.2.2.2.1.getD y11.2.2.1.toNat default;.br (decide (y11.2.2.1<aU)) (.ix y11.2.2.1 y11.2.2.2.1.length<|.ob (0<=y11.2.1/\y11.2.1<=y11.2.2.2.1.getD y11.2.2.1.toNat default/\y11.2.2.2.1.getD y11.2.2.1.toNat default<=aj)<|.ap (y11.1.length+[s.extract y11.2.1.toNat Q_.toNat].length) 16<|.re (Value.int IntKind.i64 y2.2.1)<|.re aC<|.re (cs)<|.re E_<|.re L_<|.re (Value.int IntKind.i64 aU)<|.bk (bk11 (y11.1++[s.extract y11.2.1.toNat Q_.toNat],(y11.2.2.2.1.getD y11.2.2.1.toNat default,(w1 y11.2.2.1,(y11.2.2.2.1,())))))) (.ob (0<=y11.2.1/\y11.2.1<=aj)<|.ap (y11.1.length+[s.extract y11.2.1.toNat s.size].length) 16<|.lf LD (y11.1++[s.extract y11.2.1.toNat s.size],())))) ?_;refine Ab ?_ λ_=>Am ?_ λ(y2:an) i2=>Aa (λh3=>Ab ?_ λ_=>Ae trivial λ_=>Aa (λh5=>Ed ?_ λ_=>Ai<|Ai<|Ai<|Ai<|AR ?_) λh5=>Ai<|Ai<|Ai<|Ai<|AR ?_) (λh3=>Ab ?_ λ_=>DS (Ab ?_ λ_=>DS (Am ?_ λ(y11:eL) i11=>Aa (λh12=>Ei ?_ λo13 o14=>Ab ?_ λ_=>Ed ?_ λ_=>Ai<|Ai<|Ai<|Ai<|Ai<|Ai<|AR ?_) λh12=>Ab ?_ λ_=>Ed ?_ λ_=>lfY ?_)))<;>(try simp only[AiI] at *)<;>(have hl7:=bS (i:=7) (l:=cs);have hp1:=Qa s cs;have hp2:=NE (cutAts s cs);have hp3:=Pq s cs;have hp6:=Ic s cs;try simp only[std,Nat.reduceAdd] at *)<;>(try simp(disch:=omega) only[FS,A_] at *)<;>(try simp(disch:=omega) only[I_,J_])<;>(try have q2:y2.1=cutAts s cs:=by have h:=i2.2.2.2;rw[AcP o_,cF] at h;exact h)<;>(try simp only[q2,show B8 (R5 (cutAts s cs))=cutPos s cs from rfl] at *)<;>(try have ce:=i11.1.e;simp only[ce] at *)<;>(try clear hp6)<;>(try simp(disch:=omega) only[FS,A_] at *)<;>(first|omega|skip)<;>(try by_cases hj:y11.2.2.1.toNat<(cutPos s cs).length;(obtain⟨g1,g2,g3⟩:=CutInv.get i11.1 hj))<;>(try have g4:=i11.1.a0;have g5:=i11.1.a1)<;>(first|omega|skip)<;>(first|exact⟨CutInv.zero s cs,o_,o_,o_,(Ic s cs).symm⟩|grind[cutAts,fA,fh,ez]))
def P0 (s:ByteArray):∀ (l:List Int) (a:Int),(pieces s l a).length=l.length+1
 | [],_=>rfl
 | x::l,a=>by rw[pieces,aw,P0 s l x,aw]
def Us (s:ByteArray) (cs:List Int):(cutText s cs).length<=8:=by
 have:=Pq s cs;rw[Ic,P0];unfold cutPos at this;omega
def nameByte (b:UInt8):Bool:=97<=b.toNat&&b.toNat<=122
def bts (s:ByteArray):List UInt8:=s.data.toList
def AgF (s:ByteArray):(bts s).length=s.size:=rfl
def Aht {s:ByteArray} {i:Nat} (h:i<s.size):(bts s).drop i=s.data.getD i 0::(bts s).drop (i+1):=by
 have h2:i<s.data.size:=h;have e:s.data.getD i 0=s.data[i]:=by unfold Array.getD;rw[dif_pos h2];rfl
 rw[List.drop_eq_getElem_cons (by rw[AgF];exact h),e];rfl
def Afs {s:ByteArray} {i:Nat} (h:s.size<=i):(bts s).drop i=[]:=bR h
def allB (p:UInt8->Bool) (l:List UInt8):Bool:=l.all p
def Ro {p:UInt8->Bool} {s:ByteArray} {i:Nat} (h:i<s.size):allB p ((bts s).drop i)=(p (s.data.getD i 0)&&allB p ((bts s).drop (i+1))):=by rw[Aht h];rfl
def Ni {p:UInt8->Bool} {s:ByteArray} {i:Nat} (h:s.size<=i):allB p ((bts s).drop i)=true:=by rw[Afs h];rfl
def isName (s:ByteArray):Bool:=allB nameByte (bts s)&&decide (1<=s.size/\s.size<=8)
abbrev Bv:Fct:=⟨[.v (.el .str)],[.el .bool],λ(x:K_)=>x.1.size<=1000000000000000000,λ(x:K_)=>(isName x.1,())⟩
abbrev Dk (s:ByteArray):LInv:=⟨[⟨.s,3,true,.el .int⟩],λ_ (x:B_)=>0<=x.1/\x.1<=s.size/\allB nameByte ((bts s).drop x.1.toNat)=allB nameByte (bts s),λ(x:B_)=>s.size-x.1.toNat⟩
def E86:=E85.a Bv<|Fct.p (KP [0,2,3] [7,19]) (λ⟨s,_⟩=>lv [(2,Dk s)]) E85.2 func265 (by
 rintro⟨(s:ByteArray),_⟩ hp;exact hg (.lq (Int×PUnit) (Dk s).inv (Dk s).m ((0:Int),()) λy1 bk1=>.br (decide (y1.1<(s.size:Int))) (.ob (0<=y1.1/\y1.1<(s.size:Int))<|.br (decide ((↑(s.data.getD y1.1.toNat 0).toNat:Int)<97)) (.lf Bv (false,())) (.ob (0<=y1.1/\y1.1<(s.size:Int))<|.br (decide ((↑(s.data.getD y1.1.toNat 0).toNat:Int)>122)) (.lf Bv (false,())) (.re (Value.string s)<|.bk (bk1 (w1 y1.1,()))))) (.cl Au ((s.size:Int),(1:Int),(8:Int),()) λz2=>.lf Bv (z2.1,()))) (an_ @isName.eq_1<|an_ @nameByte.eq_1<|an_ @inRange.eq_1<|an_ @Ro<|@Ni))
abbrev Dj (s:ByteArray):LInv:=⟨[⟨.s,3,true,.el .int⟩],λ_ (x:B_)=>0<=x.1/\x.1<=s.size/\allB nameByte ((bts s).drop x.1.toNat)=allB nameByte (bts s),λ(x:B_)=>s.size-x.1.toNat⟩
def E87:=E86.a Bv<|Fct.p (KP [0,2,3] [7,19]) (λ⟨s,_⟩=>lv [(2,Dj s)]) E86.2 func230 (by
 rintro⟨(s:ByteArray),_⟩ hp;exact hg (.lq (Int×PUnit) (Dj s).inv (Dj s).m ((0:Int),()) λy1 bk1=>.br (decide (y1.1<(s.size:Int))) (.ob (0<=y1.1/\y1.1<(s.size:Int))<|.br (decide ((↑(s.data.getD y1.1.toNat 0).toNat:Int)<97)) (.lf Bv (false,())) (.ob (0<=y1.1/\y1.1<(s.size:Int))<|.br (decide ((↑(s.data.getD y1.1.toNat 0).toNat:Int)>122)) (.lf Bv (false,())) (.re (Value.string s)<|.bk (bk1 (w1 y1.1,()))))) (.cl Au ((s.size:Int),(1:Int),(8:Int),()) λz2=>.lf Bv (z2.1,()))) (an_ @isName.eq_1<|an_ @nameByte.eq_1<|an_ @inRange.eq_1<|an_ @Ro<|@Ni))
def valByte (b:UInt8):Bool:=(97<=b.toNat&&b.toNat<=122)||(48<=b.toNat&&b.toNat<=57)||b.toNat==47
def isValue (s:ByteArray):Bool:=allB valByte (bts s)&&decide (1<=s.size/\s.size<=20)
abbrev GE:Fct:=⟨[.v (.el .str)],[.el .bool],λ(x:K_)=>x.1.size<=1000000000000000000,λ(x:K_)=>(isValue x.1,())⟩
abbrev EQ (s:ByteArray):LInv:=⟨[⟨.s,3,true,.el .int⟩],λ_ (x:B_)=>0<=x.1/\x.1<=s.size/\allB valByte ((bts s).drop x.1.toNat)=allB valByte (bts s),λ(x:B_)=>s.size-x.1.toNat⟩
def E88:=E87.a GE<|Fct.p (KP [0,2,3] [7,37]) (λ⟨s,_⟩=>lv [(2,EQ s)]) E87.2 func339 (by
 rintro⟨(s:ByteArray),_⟩ hp;exact hg (let aj:=EQ s;let U_:=(s.size:Int);.lq (Int×PUnit) aj.inv aj.m ((0:Int),()) λy1 bk1=>let M_:Out:=.re (Value.string s)<|.bk (bk1 (w1 y1.1,()));let L_:=0<=y1.1/\y1.1<U_;let H_:=(↑(s.data.getD y1.1.toNat 0).toNat:Int);let Q_:Out:=.ob L_<|.br (H_ != 47) (.lf GE (false,())) M_;let E_:Out:=.ob L_<|.br (decide (H_<48)) Q_ (.ob L_<|.br (decide (H_>57)) Q_ M_);.br (decide (y1.1<U_)) (.ob L_<|.br (decide (H_<97)) E_ (.ob L_<|.br (decide (H_>122)) E_ M_)) (.cl Au (U_,(1:Int),(20:Int),()) λz2=>.lf GE (z2.1,()))) (an_ @isValue.eq_1<|an_ @valByte.eq_1<|an_ @inRange.eq_1<|an_ @Ro<|@Ni))
abbrev EK (s:ByteArray):LInv:=⟨[⟨.s,3,true,.el .int⟩],λ_ (x:B_)=>0<=x.1/\x.1<=s.size/\allB valByte ((bts s).drop x.1.toNat)=allB valByte (bts s),λ(x:B_)=>s.size-x.1.toNat⟩
def E89:=E88.a GE<|Fct.p (KP [0,2,3] [7,38]) (λ⟨s,_⟩=>lv [(2,EK s)]) E88.2 func312 (by
 rintro⟨(s:ByteArray),_⟩ hp;exact hg (let aC:=EK s;let aj:=(s.size:Int);let Q_:Out:=.lf GE (false,());.lq (Int×PUnit) aC.inv aC.m ((0:Int),()) λy1 bk1=>let M_:Out:=.re (Value.string s)<|.bk (bk1 (w1 y1.1,()));let aU:Out:=.br (!true) Q_ M_;let L_:=0<=y1.1/\y1.1<aj;let H_:=(↑(s.data.getD y1.1.toNat 0).toNat:Int);let U_:Out:=.ob L_<|.br (!H_==47) Q_ M_;let E_:Out:=.ob L_<|.br (decide (H_>=48)) (.ob L_<|.br (decide (H_<=57)) aU U_) U_;.br (decide (y1.1<aj)) (.ob L_<|.br (decide (H_>=97)) (.ob L_<|.br (decide (H_<=122)) aU E_) E_) (.cl Au (aj,(1:Int),(20:Int),()) λz2=>.lf GE (z2.1,()))) (an_ @isValue.eq_1<|an_ @valByte.eq_1<|an_ @inRange.eq_1<|an_ @Ro<|@Ni))
abbrev DH:Fct:=⟨[.v (.el .addr)],[.el .bool],λ(x:aK)=>x.1.host.size<=1000000000000000000/\x.1.path.size<=1000000000000000000,λ(x:aK)=>(isName x.1.host&&isName x.1.path,())⟩
def E90:=E89.a DH<|Fct.o [1,2] E89.2 func162 (by
 rintro⟨(a:D_),_⟩ hp;exact hq (.cl Bv (a.host,()) λz2=>.br (z2.1) (.cl Bv (a.path,()) λz3=>.lf DH (z3.1,())) (.lf DH (false,()))))
def E91:=E90.a DH<|Fct.o [1,2] E90.2 func131 (by
 rintro⟨(a:D_),_⟩ hp;exact hq (.cl Bv (a.host,()) λz2=>.br (z2.1) (.cl Bv (a.path,()) λz3=>.lf DH (z3.1,())) (.lf DH (false,()))))
def TE {l:List ByteArray} {i:Nat} (h:i<l.length):(l.getD i default).size+l.length<=szL Af l:=by
 have:=C6 Af h;omega
abbrev Lq:Fct:=⟨[.v (.sl .str)],[.el .bool],λ(x:bP)=>szL Af x.1<=1099511627776,λ(x:bP)=>(x.1.all isName&&decide (x.1.length<=4),())⟩
abbrev Di (l:(List ByteArray)):LInv:=⟨[⟨.s,3,true,.el .int⟩],λ_ (x:B_)=>0<=x.1/\x.1<=l.length/\(l.drop x.1.toNat).all isName=l.all isName,λ(x:B_)=>l.length-x.1.toNat⟩
def E92:=E91.a Lq<|Fct.p (KP [0,2,3] [7,15]) (λ⟨l,_⟩=>lv [(2,Di l)]) E91.2 func364 (by
 rintro⟨(l:List ByteArray),_⟩ hp;exact hg (.lq (Int×PUnit) (Di l).inv (Di l).m ((0:Int),()) λy1 bk1=>.br (decide (y1.1<(l.length:Int))) (.ob (inB y1.1 l.length)<|.cl Bv (l.getD y1.1.toNat default,()) λz2=>.br (!z2.1) (.lf Lq (false,())) (.re (l)<|.bk (bk1 (w1 y1.1,())))) (.lf Lq (decide ((l.length:Int)<=4),()))) (an_ (Ac Af l)<|(λi h=>by have:=TE h;have hp2:szL Af l<=1099511627776:=hp;omega:∀ i,i<l.length->(l.getD i default).size<=1000000000000000000)))
abbrev Eh:Fct:=⟨[.v (.el .str)],[.el .bool],λ(x:K_)=>x.1.size<=1000000000000000000,λ(x:K_)=>(!isName x.1,())⟩
def E93:=E92.a Eh<|Fct.o [0,2] E92.2 func435 (by
 rintro⟨(s:ByteArray),_⟩ hp;exact hq (.cl Bv (s,()) λz2=>.lf Eh (!z2.1,())))
abbrev Bh:Fct:=⟨[aL .str,.c 435 []],[rI],λx=>x.1.length<=1000000000000000000/\∀ i,i<x.1.length->Eh.pre (x.1.getD i default,x.2.1),λx=>(fidx (λc=>(Eh.fn (c,x.2.1)).1) x.1 0,())⟩
abbrev AI (l:(List ByteArray)) (u:(Unit)):LInv:=⟨[⟨.s,8,true,.el .int⟩],λ_ (x:B_)=>0<=x.1/\x.1<=l.length/\fidx (λc=>(Eh.fn (c,u)).1) l 0=fidx (λc=>(Eh.fn (c,u)).1) (l.drop x.1.toNat) x.1,λ(x:B_)=>l.length-x.1.toNat⟩
def E94:=E93.a Bh<|Fct.p (KP [0,1,4,5,7,8] [9,16]) (λ⟨l,u,_⟩=>lv [(2,AI l u)]) E93.2 func451 (by
 rintro⟨(l:List ByteArray),(u:PUnit),_⟩ hp;refine ho (lpx (AI l u) ((0:Int),()) λ(y1:B_) bk1=>.br (decide (y1.1<(l.length:Int))) (.ob (inB y1.1 l.length)<|.cl Eh (l.getD y1.1.toNat default,()) λz2=>.br (z2.1) (.lf Bh (y1.1,())) (.re (l)<|.re (Value.int IntKind.i64 (l.length:Int))<|.bk (bk1 (w1 y1.1,())))) (.lf Bh ((-1:Int),()))) ?_;refine Am ?_ λ(y1:B_) i1=>Aa (λh2=>Ab ?_ λ_=>Ae ?_ λ_=>Aa (λh5=>lfY ?_) λh5=>Ai<|Ai<|AR ?_) (λh2=>lfY ?_)<;>(try simp only[std,Nat.reduceAdd] at *)<;>(try have hp2:=hp.2)<;>(try have hp1:=hp.1)<;>(first|trivial|omega|exact hp2 _ o_|grind[FS,A_,HO,G_,F_,maxLen,fidx]))
abbrev Bw:Fct:=⟨[aL .str,.c 435 []],[rB],λx=>x.1.length<=1000000000000000000/\∀ i,i<x.1.length->Eh.pre (x.1.getD i default,x.2.1),λx=>(x.1.any λc=>(Eh.fn (c,x.2.1)).1,())⟩
def E95:=E94.a Bw<|Fct.o [0,1,4] E94.2 func434 (by
 rintro⟨(l:List ByteArray),(u:PUnit),_⟩ hp;refine ho (.cl Bh (l,(),()) λ(z2:B_)=>.lf Bw (decide (z2.1>=0),())) ?_;refine Ae ?_ λ_=>(lfY ?_)<;>(try simp only[std,Nat.reduceAdd] at *)<;>(first|trivial|omega|exact hp|(rw[Bool.eq_iff_iff];exact decide_eq_true_iff.trans (Kz _ _ _ o_))))
def E96:=E95.a Lq<|Fct.o [0,2] E95.2 func411 (by
 rintro⟨(l:List ByteArray),_⟩ hp;exact hg (.br (decide ((↑(List.length l):Int)<=4)) (.cl Bw (l,(),()) λz2=>.lf Lq (!z2.1,())) (.lf Lq (false,()))) (an_ (Ac Af l)<|an_ (λi h=>by have:=TE h;have hp2:szL Af l<=1099511627776:=hp;omega:∀ i,i<l.length->(l.getD i default).size<=1000000000000000000)<|(by simp[List.any_eq_not_all_not]:(l.any λc=>!isName c) = !(l.all isName))))
def isPolicy (p:aN):Bool:=if p.set_ then p.bp.all isName&&decide (p.bp.length<=4)&&(p.styles.all isName&&decide (p.styles.length<=4))&&(p.images.all isName&&decide (p.images.length<=4))&&(decide (p.nonce=⟨#[]⟩)||isValue p.nonce) else decide (p.bp.length=0/\p.styles.length=0/\p.images.length=0/\p.nonce=⟨#[]⟩)
abbrev Cp:Fct:=⟨[.v (.el .bj)],[.el .bool],λ(x:bO)=>AQ x.1<=1099511627776,λ(x:bO)=>(isPolicy x.1,())⟩
theorem q13 (p:aN) (hp:Cp.pre (p,())):Out.holds (Cp.ctr (p,())).post (.br (!p.set_) (.br ((p.bp.length:Int)==0) (.br ((p.styles.length:Int)==0) (.br ((p.images.length:Int)==0) (.lf Cp (p.nonce.toList==(⟨#[]⟩:ByteArray).toList,())) (.lf Cp (false,()))) (.lf Cp (false,()))) (.lf Cp (false,()))) (.cl Lq (p.bp,()) λz2=>.br (z2.1) (.cl Lq (p.styles,()) λz3=>.br (z3.1) (.cl Lq (p.images,()) λz4=>.br (z4.1) (.br (p.nonce.toList==(⟨#[]⟩:ByteArray).toList) (.lf Cp (true,())) (.cl GE (p.nonce,()) λz5=>.lf Cp (z5.1,()))) (.lf Cp (false,()))) (.lf Cp (false,()))) (.lf Cp (false,())))):=hz ((an_ @isPolicy.eq_1<|@AQ.eq_1))
def E97:=E96.a Cp<|Fct.o (KP [1,2] [5]) E96.2 func291 (by
 rintro⟨(p:aN),_⟩ hp;exact ho _ (q13 p hp))
def E98:=E97.a Cp<|Fct.o (KP [1,2] [5]) E97.2 func367 (by
 rintro⟨(p:aN),_⟩ hp;exact ho _ (q13 p hp))
abbrev Fj:Fct:=⟨[.v (.el .bj),.v (.el .int),.v (.el .str)],[.el .bool],λ(x:fK)=>AQ x.1<=1099511627776,λ(x:fK)=>(!x.1.set_||(if x.2.1=2\/x.2.1=5 then x.1.bp.any (λc=>decide (c=x.2.2.1)) else if x.2.1=3 then x.1.styles.any (λc=>decide (c=x.2.2.1)) else if x.2.1=4 then x.1.images.any (λc=>decide (c=x.2.2.1)) else false),())⟩
def E99:=E98.a Fj<|Fct.o (KP [1,2,3,6] [7,11,22,29]) E98.2 func270 (by
 rintro⟨(p:aN),(k:Int),(h:ByteArray),_⟩ hp;exact hg (.br (!p.set_) (.lf Fj (true,())) (.br (k==2) (.cl Up (p.bp,h,()) λz2=>.lf Fj (z2.1,())) (.br (k==5) (.cl Up (p.bp,h,()) λz3=>.lf Fj (z3.1,())) (.br (k==3) (.cl Up (p.styles,h,()) λz4=>.lf Fj (z4.1,())) (.br (k==4) (.cl Up (p.images,h,()) λz5=>.lf Fj (z5.1,())) (.lf Fj (false,()))))))) (an_ @AQ.eq_1<|an_ (Ac Af p.bp)<|an_ (Ac Af p.styles)<|(Ac Af p.images)))
def AkO:=E99.a Fj<|Fct.o (KP [1,2,3,6,10,11] [9,18,24]) E99.2 func235 (by
 rintro⟨(p:aN),(k:Int),(h:ByteArray),_⟩ hp;exact hg (let H_:Out:=.cl FV (p.bp,h,()) λz2=>.lf Fj (z2.1,());let E_:Out:=.br (k==3) (.cl FV (p.styles,h,()) λz3=>.lf Fj (z3.1,())) (.br (k==4) (.cl FV (p.images,h,()) λz4=>.lf Fj (z4.1,())) (.lf Fj (false,())));.br (!p.set_) (.lf Fj (true,())) (.br (k==2) (.br (k==2) H_ E_) (.br (k==5) H_ E_))) (an_ @AQ.eq_1<|an_ (Ac Af p.bp)<|an_ (Ac Af p.styles)<|(Ac Af p.images)))
def isRequest (r:ar):Bool:=inRange r.kind 1 5&&(isName r.to.host&&isName r.to.path)&&isName r.from_&&(decide (r.digest=⟨#[]⟩)||isValue r.digest)
abbrev Cx:Fct:=⟨[.v (.el .request)],[.el .bool],λ(x:eM)=>BE x.1<=1099511627776,λ(x:eM)=>(isRequest x.1,())⟩
theorem q14 (r:ar) (hp:Cx.pre (r,())):Out.holds (Cx.ctr (r,())).post (.cl Au (r.kind,(1:Int),(5:Int),()) λz2=>.br (z2.1) (.cl DH (r.to,()) λz3=>.br (z3.1) (.cl Bv (r.from_,()) λz4=>.br (z4.1) (.br (r.digest.toList==(⟨#[]⟩:ByteArray).toList) (.lf Cx (true,())) (.cl GE (r.digest,()) λz5=>.lf Cx (z5.1,()))) (.lf Cx (false,()))) (.lf Cx (false,()))) (.lf Cx (false,()))):=hz ((an_ @isRequest.eq_1<|an_ @BE.eq_1<|@szAddr.eq_1))
def AkI:=AkO.a Cx<|Fct.o [1,2] AkO.2 func269 (by
 rintro⟨(r:ar),_⟩ hp;exact ho _ (q14 r hp))
def Amw:=AkI.a Cx<|Fct.o [1,2] AkI.2 func234 (by
 rintro⟨(r:ar),_⟩ hp;exact ho _ (q14 r hp))
def allows (p:aN) (k:Int) (h:ByteArray):Bool:=(Fj.fn (p,k,h,())).1
def checkRequest (p:aN) (r:ar):Int:=if isRequest r&&(decide (r.kind=1)||allows p r.kind r.to.host) then 1 else 2
abbrev Ay:Fct:=⟨[.v (.el .bj),.v (.el .request)],[.el .int],λ(x:fL)=>AQ x.1<=1099511627776/\BE x.2.1<=1099511627776,λ(x:fL)=>(checkRequest x.1 x.2.1,())⟩
theorem q15 (p:aN) (r:ar) (hp:Ay.pre (p,r,())):Out.holds (Ay.ctr (p,r,())).post (.cl Cx (r,()) λz2=>.br (!z2.1) (.lf Ay ((2:Int),())) (.br (r.kind != 1) (.cl Fj (p,r.kind,r.to.host,()) λz3=>.br (!z3.1) (.lf Ay ((2:Int),())) (.lf Ay ((1:Int),()))) (.lf Ay ((1:Int),())))):=hz ((an_ @checkRequest.eq_1<|@allows.eq_1))
def Ang:=Amw.a Ay<|Fct.o (KP [2,3,4] [22]) Amw.2 func166 (by
 rintro⟨(p:aN),(r:ar),_⟩ hp;exact ho _ (q15 p r hp))
def Am7:=Ang.a Ay<|Fct.o (KP [2,3,4] [22]) Ang.2 func135 (by
 rintro⟨(p:aN),(r:ar),_⟩ hp;exact ho _ (q15 p r hp))
abbrev EE:Fct:=⟨[.v (.el .bd),.v (.el .int)],[.el .bool],λ(x:R_×Int×Unit)=>True,λ(x:R_×Int×Unit)=>(decide (x.1.kind=x.2.1)||decide (x.2.1=5/\x.1.kind=2),())⟩
def AmG:=Am7.a EE<|Fct.o [1,2,4] Am7.2 func352 (by
 rintro⟨(x:R_),(k:Int),_⟩ hp;exact hq (.br (x.kind==k) (.lf EE (true,())) (.br (k==5) (.lf EE (x.kind==2,())) (.lf EE (false,())))))
def Ak1:=AmG.a EE<|Fct.o [1,2,4] AmG.2 func325 (by
 rintro⟨(x:R_),(k:Int),_⟩ hp;exact hq (.br (x.kind==k) (.lf EE (true,())) (.br (k==5) (.lf EE (x.kind==2,())) (.lf EE (false,())))))
def notFound:R_:=⟨404,1,⟨#[]⟩,0,false,⟨#[]⟩⟩
abbrev DB:Fct:=⟨[],[rE .bd],λ_=>True,λ_=>(notFound,())⟩
def Alj:=Ak1.a DB<|Fct.o [0] Ak1.2 func156 (by
 rintro⟨_⟩ hp;refine ho (.lf DB (⟨(404:Int),(1:Int),(⟨#[]⟩:ByteArray),(0:Int),false,(⟨#[]⟩:ByteArray)⟩,())) ?_;refine lfY ?_;all_goals try simp only[std,Nat.reduceAdd] at *
 all_goals first|trivial|omega|(simp_all;done)|(simp_all;omega)|grind)
def Aj1:=Alj.a DB<|Fct.o [0] Alj.2 func125 (by
 rintro⟨_⟩ hp;refine ho (.lf DB (⟨(404:Int),(1:Int),(⟨#[]⟩:ByteArray),(0:Int),false,(⟨#[]⟩:ByteArray)⟩,())) ?_;refine lfY ?_;all_goals try simp only[std,Nat.reduceAdd] at *
 all_goals first|trivial|omega|(simp_all;done)|(simp_all;omega)|grind)
abbrev Db:Fct:=⟨[.v (.sl .server)],[.sl .server],λ(x:bX)=>szL An x.1<=68719476736,λ(x:bX)=>(x.1,())⟩
abbrev B3 (l:(List ax)):LInv:=⟨[⟨.s,3,true,.sl .server⟩,⟨.s,4,true,.el .int⟩],λ_ (x:eN)=>0<=x.2.1/\x.2.1<=l.length/\x.1=l.take x.2.1.toNat,λ(x:eN)=>l.length-x.2.1.toNat⟩
def AkZ:=Aj1.a Db<|Fct.p (KP [0,2,3,4] [9]) (λ⟨l,_⟩=>lv [(3,B3 l)]) Aj1.2 func238 (by
 rintro⟨(l:List ax),_⟩ hp;exact hg (.lq (List ax×Int×PUnit) (B3 l).inv (B3 l).m ([],((0:Int),())) λy1 bk1=>.br (decide (y1.2.1<(l.length:Int))) (.ob (inB y1.2.1 l.length)<|.ob (inB y1.2.1 l.length)<|.ap (l.getD y1.2.1.toNat default).files.length 80<|.ob (IA (y1.1.length+[l.getD y1.2.1.toNat default].length) 40)<|.re (l)<|.bk (bk1 (y1.1++[l.getD y1.2.1.toNat default],(w1 y1.2.1,())))) (.lf Db (y1.1,()))) (an_ @S_<|an_ @aZ<|an_ (Ac An l)<|(λi h=>by have:=Jj h;have hp2:szL An l<=68719476736:=hp;omega:∀ i,i<l.length->(l.getD i default).files.length<=68719476736)))
abbrev BI (l:(List ax)):LInv:=⟨[⟨.s,3,true,.sl .server⟩,⟨.s,9,true,.el .int⟩],λ_ (x:eN)=>0<=x.2.1/\x.2.1<=l.length/\x.1=l.take x.2.1.toNat,λ(x:eN)=>l.length-x.2.1.toNat⟩
def AnG:=AkZ.a Db<|Fct.p (KP [0,2,3,5,7,8,9] [10]) (λ⟨l,_⟩=>lv [(3,BI l)]) AkZ.2 func201 (by
 rintro⟨(l:List ax),_⟩ hp;exact hg (.lq (List ax×Int×PUnit) (BI l).inv (BI l).m ([],((0:Int),())) λy1 bk1=>.br (decide (y1.2.1<(l.length:Int))) (.ob (inB y1.2.1 l.length)<|.ap (l.getD y1.2.1.toNat default).files.length 80<|.ob (IA (y1.1.length+[l.getD y1.2.1.toNat default].length) 40)<|.re (l)<|.re (l)<|.re (Value.int IntKind.i64 (l.length:Int))<|.bk (bk1 (y1.1++[l.getD y1.2.1.toNat default],(w1 y1.2.1,())))) (.lf Db (y1.1,()))) (an_ @S_<|an_ @aZ<|an_ (Ac An l)<|(λi h=>by have:=Jj h;have hp2:szL An l<=68719476736:=hp;omega:∀ i,i<l.length->(l.getD i default).files.length<=68719476736)))
abbrev DE:Fct:=⟨[.v (.el .cache)],[.el .cache],λ(x:cz)=>szCache x.1<=68719476736,λ(x:cz)=>(x.1,())⟩
def Aku:=AnG.a DE<|Fct.o [1,2] AnG.2 func239 (by
 rintro⟨(c:bv),_⟩ hp;exact hg (.ap (0+c.bg.length) 120<|.lf DE (⟨[]++c.bg⟩,())) (an_ @szCache.eq_1<|(Ac AY c.bg)))
def AmZ:=Aku.a DE<|Fct.o [1,2] Aku.2 func202 (by
 rintro⟨(c:bv),_⟩ hp;exact hg (.ap (0+c.bg.length) 120<|.lf DE (⟨[]++c.bg⟩,())) (an_ @szCache.eq_1<|(Ac AY c.bg)))
abbrev GF:Fct:=⟨[.v (.el .net)],[.el .net],λ(x:bJ)=>szNet x.1<=68719476736,λ(x:bJ)=>(x.1,())⟩
def Ans:=AmZ.a GF<|Fct.o [1,2] AmZ.2 func144 (by
 rintro⟨(n:az),_⟩ hp;exact hg (.cl Db (n.servers,()) λz2=>.cl DE (n.cache,()) λz3=>.ap n.log.length 56<|.lf GF (⟨z2.1,z3.1,n.log,n.now⟩,())) (an_ @szNet.eq_1<|(Ac Ge n.log)))
def Ajm:=Ans.a GF<|Fct.o [1,2] Ans.2 func111 (by
 rintro⟨(n:az),_⟩ hp;exact hg (.cl Db (n.servers,()) λz2=>.cl DE (n.cache,()) λz3=>.ap n.log.length 56<|.lf GF (⟨z2.1,z3.1,n.log,n.now⟩,())) (an_ @szNet.eq_1<|(Ac Ge n.log)))
abbrev Hs:Fct:=⟨[.v (.sl .server),.v (.el .str)],[.el .int],λ(x:fM)=>x.1.length<=1000000000000,λ(x:fM)=>(fidx (λs=>decide (s.host=x.2.1)) x.1 0,())⟩
abbrev Cd (l:(List ax)) (h:ByteArray):LInv:=⟨[⟨.s,5,true,.el .int⟩],λ_ (x:B_)=>0<=x.1/\x.1<=l.length/\fidx (λs=>decide (s.host=h)) (l.drop x.1.toNat) x.1=fidx (λs=>decide (s.host=h)) l 0,λ(x:B_)=>l.length-x.1.toNat⟩
def Ak5:=Ajm.a Hs<|Fct.p (KP [0,1,4,5] [9,18]) (λ⟨l,h,_⟩=>lv [(2,Cd l h)]) Ajm.2 func266 (by
 rintro⟨(l:List ax),(h:ByteArray),_⟩ hp;exact hg (.lq (Int×PUnit) (Cd l h).inv (Cd l h).m ((0:Int),()) λy1 bk1=>.br (decide (y1.1<(l.length:Int))) (.ob (inB y1.1 l.length)<|.br ((l.getD y1.1.toNat default).host.toList==h.toList) (.lf Hs (y1.1,())) (.re (l)<|.re (Value.string h)<|.bk (bk1 (w1 y1.1,())))) (.lf Hs ((-1:Int),()))) (an_ @fidx.eq_1<|@fidx.eq_2))
abbrev Gy:Fct:=⟨[.v (.el .server),.p (.el .str)],[.el .bool],λ(x:eO)=>True,λ(x:eO)=>(decide (x.1.host=x.2.1),())⟩
def Akh:=Ak5.a Gy<|Fct.o [1,2,3] Ak5.2 func332 (by
 rintro⟨(s:ax),(h:ByteArray),_⟩ hp;exact hq (.lf Gy (s.host.toList==ByteArray.toList h,())))
abbrev A0:Fct:=⟨[aL .server,.c 332 [.el .str]],[rI],λx=>x.1.length<=1000000000000000000/\∀ c,Gy.pre (c,x.2.1),λx=>(fidx (λc=>(Gy.fn (c,x.2.1)).1) x.1 0,())⟩
abbrev Ar (l:(List ax)) (u:(ByteArray×Unit)):LInv:=⟨[⟨.s,8,true,.el .int⟩],λ_ (x:B_)=>0<=x.1/\x.1<=l.length/\fidx (λc=>(Gy.fn (c,u)).1) l 0=fidx (λc=>(Gy.fn (c,u)).1) (l.drop x.1.toNat) x.1,λ(x:B_)=>l.length-x.1.toNat⟩
def Akf:=Akh.a A0<|Fct.p (KP [0,1,4,5,7,8] [9,16]) (λ⟨l,u,_⟩=>lv [(2,Ar l u)]) Akh.2 func331 (by
 rintro⟨(l:List ax),(u:K_),_⟩ hp;refine ho (lpx (Ar l u) ((0:Int),()) λ(y1:B_) bk1=>.br (decide (y1.1<(l.length:Int))) (.ob (inB y1.1 l.length)<|.cl Gy (l.getD y1.1.toNat default,u.1,()) λz2=>.br (z2.1) (.lf A0 (y1.1,())) (.re (l)<|.re (enc Ty.str u.1)<|.re (Value.int IntKind.i64 (l.length:Int))<|.bk (bk1 (w1 y1.1,())))) (.lf A0 ((-1:Int),()))) ?_;refine Am ?_ λ(y1:B_) i1=>Aa (λh2=>Ab ?_ λ_=>Ae trivial λ_=>Aa (λh4=>lfY ?_) λh4=>Ai<|Ai<|Ai<|AR ?_) (λh2=>lfY ?_)<;>(try simp only[std,Nat.reduceAdd] at *)<;>(try have hp2:=hp.2)<;>(try have hp1:=hp.1)<;>(first|trivial|omega|grind[FS,A_,HO,G_,F_,maxLen,fidx]))
def Anj:=Akf.a Hs<|Fct.o [0,3,4] Akf.2 func231 (by
 rintro⟨(l:List ax),(h:ByteArray),_⟩ hp;exact hq (.cl A0 (l,(h,()),()) λ(z2:B_)=>.lf Hs (z2.1,())))
abbrev Jk:Fct:=⟨[.v (.el .server),.v (.el .str)],[.el .int],λ(x:eO)=>x.1.files.length<=1000000000000,λ(x:eO)=>(fidx (λf=>decide (f.path=x.2.1)) x.1.files 0,())⟩
abbrev C5 (s:ax) (p:ByteArray):LInv:=⟨[⟨.s,5,true,.el .int⟩,⟨.b,2,false,.el .server⟩],λ(z x:dx)=>(0<=x.1/\x.1<=s.files.length/\fidx (λf=>decide (f.path=p)) (s.files.drop x.1.toNat) x.1=fidx (λf=>decide (f.path=p)) s.files 0)/\x.2.1=z.2.1,λ(x:dx)=>s.files.length-x.1.toNat⟩
def AkM:=Anj.a Jk<|Fct.p (KP [1,2,4,5] [10,20]) (λ⟨s,p,_⟩=>lv [(2,C5 s p)]) Anj.2 func267 (by
 rintro⟨(s:ax),(p:ByteArray),_⟩ hp;exact hg (.lq (Int×ax×PUnit) (C5 s p).inv (C5 s p).m ((0:Int),(s,())) λy1 bk1=>.br (decide (y1.1<(y1.2.1.files.length:Int))) (.ob (inB y1.1 y1.2.1.files.length)<|.br ((y1.2.1.files.getD y1.1.toNat default).path.toList==p.toList) (.lf Jk (y1.1,())) (.re (Value.string p)<|.bk (bk1 (w1 y1.1,(y1.2.1,()))))) (.lf Jk ((-1:Int),()))) (an_ @fidx.eq_1<|@fidx.eq_2))
abbrev IQ:Fct:=⟨[.v (.el .file),.p (.el .str)],[.el .bool],λ(x:cC×ByteArray×Unit)=>True,λ(x:cC×ByteArray×Unit)=>(decide (x.1.path=x.2.1),())⟩
def AlX:=AkM.a IQ<|Fct.o [1,2,3] AkM.2 func334 (by
 rintro⟨(f:cC),(p:ByteArray),_⟩ hp;exact hq (.lf IQ (f.path.toList==ByteArray.toList p,())))
abbrev Bk:Fct:=⟨[aL .file,.c 334 [.el .str]],[rI],λx=>x.1.length<=1000000000000000000/\∀ c,IQ.pre (c,x.2.1),λx=>(fidx (λc=>(IQ.fn (c,x.2.1)).1) x.1 0,())⟩
abbrev AE (l:(List cC)) (u:(ByteArray×Unit)):LInv:=⟨[⟨.s,8,true,.el .int⟩],λ_ (x:B_)=>0<=x.1/\x.1<=l.length/\fidx (λc=>(IQ.fn (c,u)).1) l 0=fidx (λc=>(IQ.fn (c,u)).1) (l.drop x.1.toNat) x.1,λ(x:B_)=>l.length-x.1.toNat⟩
def Aju:=AlX.a Bk<|Fct.p (KP [0,1,4,5,7,8] [9,16]) (λ⟨l,u,_⟩=>lv [(2,AE l u)]) AlX.2 func333 (by
 rintro⟨(l:List cC),(u:K_),_⟩ hp;refine ho (lpx (AE l u) ((0:Int),()) λ(y1:B_) bk1=>.br (decide (y1.1<(l.length:Int))) (.ob (inB y1.1 l.length)<|.cl IQ (l.getD y1.1.toNat default,u.1,()) λz2=>.br (z2.1) (.lf Bk (y1.1,())) (.re (l)<|.re (enc Ty.str u.1)<|.re (Value.int IntKind.i64 (l.length:Int))<|.bk (bk1 (w1 y1.1,())))) (.lf Bk ((-1:Int),()))) ?_;refine Am ?_ λ(y1:B_) i1=>Aa (λh2=>Ab ?_ λ_=>Ae trivial λ_=>Aa (λh4=>lfY ?_) λh4=>Ai<|Ai<|Ai<|AR ?_) (λh2=>lfY ?_)<;>(try simp only[std,Nat.reduceAdd] at *)<;>(try have hp2:=hp.2)<;>(try have hp1:=hp.1)<;>(first|trivial|omega|grind[FS,A_,HO,G_,F_,maxLen,fidx]))
def AjJ:=Aju.a Jk<|Fct.o [2,3,4] Aju.2 func232 (by
 rintro⟨(s:ax),(p:ByteArray),_⟩ hp;exact hq (.cl Bk (s.files,(p,()),()) λ(z2:B_)=>.lf Jk (z2.1,())))
def answerTo (l:List ax) (a:D_):R_:=if fidx (λs=>decide (s.host=a.host)) l 0<0 then notFound else if fidx (λf=>decide (f.path=a.path)) (l.getD (fidx (λs=>decide (s.host=a.host)) l 0).toNat default).files 0<0 then notFound else((l.getD (fidx (λs=>decide (s.host=a.host)) l 0).toNat default).files.getD (fidx (λf=>decide (f.path=a.path)) (l.getD (fidx (λs=>decide (s.host=a.host)) l 0).toNat default).files 0).toNat default).bd
abbrev FU:Fct:=⟨[.v (.sl .server),.v (.el .addr)],[.el .bd],λ(x:fN)=>szL An x.1<=68719476736,λ(x:fN)=>(answerTo x.1 x.2.1,())⟩
theorem q16 (l:List ax) (a:D_) (hp:FU.pre (l,a,())):Out.holds (FU.ctr (l,a,())).post (.cl Hs (l,a.host,()) λ(z2:B_)=>.br (decide (z2.1<0)) (.cl DB () λz3=>.lf FU (z3.1,())) (.ob (0<=z2.1/\z2.1<(↑(List.length l):Int))<|.cl Jk (List.getD l z2.1.toNat default,a.path,()) λ(z4:B_)=>.br (decide (z4.1<0)) (.cl DB () λz5=>.lf FU (z5.1,())) (.ob (0<=z2.1/\z2.1<(↑(List.length l):Int))<|.ob (0<=z4.1/\z4.1<(↑(List.getD l z2.1.toNat default).files.length:Int))<|.lf FU (((List.getD l z2.1.toNat default).files.getD z4.1.toNat default).bd,())))):=hz ((an_ @answerTo.eq_1<|an_ (Ac An l)<|an_ (λi h=>by have:=Jj h;have hp2:szL An l<=68719476736:=hp;omega:∀ i,i<l.length->(l.getD i default).files.length<=68719476736)<|an_ (DI (λs:ax=>decide (s.host=a.host)) l 0 o_)<|(λfs=>DI (λf:cC=>decide (f.path=a.path)) fs 0 o_)))
def Ajp:=AjJ.a FU<|Fct.o (KP [0,3,4,5,6] [12,22]) AjJ.2 func163 (by
 rintro⟨(l:List ax),(a:D_),_⟩ hp;exact ho _ (q16 l a hp))
def Alu:=Ajp.a FU<|Fct.o (KP [0,3,4,5,6] [12,22]) Ajp.2 func132 (by
 rintro⟨(l:List ax),(a:D_),_⟩ hp;exact ho _ (q16 l a hp))
abbrev Ee:Fct:=⟨[.v (.el .cache),.v (.el .str),.v (.el .addr)],[.el .int],λ(x:fO)=>x.1.bg.length<=1000000000000,λ(x:fO)=>(fidx (λe=>decide (e.top=x.2.1)&&decide (e.to=x.2.2.1)) x.1.bg 0,())⟩
abbrev DY (c:bv) (t:ByteArray) (a:D_):LInv:=⟨[⟨.s,7,true,.el .int⟩,⟨.b,3,false,.el .cache⟩,⟨.b,5,true,.el .addr⟩],λ(z x:fP)=>((0<=x.1/\x.1<=c.bg.length/\fidx (λe=>decide (e.top=t)&&decide (e.to=a)) (c.bg.drop x.1.toNat) x.1=fidx (λe=>decide (e.top=t)&&decide (e.to=a)) c.bg 0)/\x.2.1=z.2.1)/\x.2.2.1=z.2.2.1,λ(x:fP)=>c.bg.length-x.1.toNat⟩
def AkJ:=Alu.a Ee<|Fct.p (KP [1,3,5,6,7] [12,32]) (λ⟨c,t,a,_⟩=>lv [(2,DY c t a)]) Alu.2 func258 (by
 rintro⟨(c:bv),(t:ByteArray),(a:D_),_⟩ hp;exact hg (let L_:=DY c t a;.lq (Int×bv×D_×PUnit) L_.inv L_.m ((0:Int),(c,(a,()))) λy1 bk1=>let M_:=inB y1.1 y1.2.1.bg.length;let H_:Out:=.re (Value.string t)<|.bk (bk1 (w1 y1.1,(y1.2.1,(y1.2.2.1,()))));let E_:=y1.2.1.bg.getD y1.1.toNat default;.br (decide (y1.1<(y1.2.1.bg.length:Int))) (.ob M_<|.br (E_.top.toList==t.toList) (.ob M_<|.br (E_.to.host==y1.2.2.1.host&&(E_.to.path==y1.2.2.1.path&&true)) (.lf Ee (y1.1,())) H_) H_) (.lf Ee ((-1:Int),()))) (an_ @fidx.eq_1<|@fidx.eq_2))
abbrev GO:Fct:=⟨[.v (.el .entry),.p (.el .str),.p (.el .addr)],[.el .bool],λ(x:fQ)=>True,λ(x:fQ)=>(decide (x.1.top=x.2.1)&&decide (x.1.to=x.2.2.1),())⟩
def Akg:=AkJ.a GO<|Fct.o [1,2,3,4] AkJ.2 func322 (by
 rintro⟨(e:bU),(t:ByteArray),(a:D_),_⟩ hp;exact hq (.br (e.top.toList==ByteArray.toList t) (.lf GO (e.to.host==a.host&&(e.to.path==a.path&&true),())) (.lf GO (false,()))))
abbrev A6:Fct:=⟨[aL .entry,.c 322 [.el .str,.el .addr]],[rI],λx=>x.1.length<=1000000000000000000/\∀ c,GO.pre (c,x.2.1),λx=>(fidx (λc=>(GO.fn (c,x.2.1)).1) x.1 0,())⟩
abbrev Ax (l:(List bU)) (u:(ByteArray×D_×Unit)):LInv:=⟨[⟨.s,8,true,.el .int⟩],λ_ (x:B_)=>0<=x.1/\x.1<=l.length/\fidx (λc=>(GO.fn (c,u)).1) l 0=fidx (λc=>(GO.fn (c,u)).1) (l.drop x.1.toNat) x.1,λ(x:B_)=>l.length-x.1.toNat⟩
def Akd:=Akg.a A6<|Fct.p (KP [0,1,4,5,7,8] [9,16]) (λ⟨l,u,_⟩=>lv [(2,Ax l u)]) Akg.2 func220 (by
 rintro⟨(l:List bU),(u:ByteArray×D_×PUnit),_⟩ hp;refine ho (lpx (Ax l u) ((0:Int),()) λ(y1:B_) bk1=>.br (decide (y1.1<(l.length:Int))) (.ob (inB y1.1 l.length)<|.cl GO (l.getD y1.1.toNat default,u.1,u.2.1,()) λz2=>.br (z2.1) (.lf A6 (y1.1,())) (.re (l)<|.re (enc Ty.str u.1)<|.re (enc Ty.addr u.2.1)<|.re (Value.int IntKind.i64 (l.length:Int))<|.bk (bk1 (w1 y1.1,())))) (.lf A6 ((-1:Int),()))) ?_;refine Am ?_ λ(y1:B_) i1=>Aa (λh2=>Ab ?_ λ_=>Ae trivial λ_=>Aa (λh4=>lfY ?_) λh4=>Ai<|Ai<|Ai<|Ai<|AR ?_) (λh2=>lfY ?_)<;>(try simp only[std,Nat.reduceAdd] at *)<;>(try have hp2:=hp.2)<;>(try have hp1:=hp.1)<;>(first|trivial|omega|grind[FS,A_,HO,G_,F_,maxLen,fidx]))
def Akq:=Akd.a Ee<|Fct.o [3,4,5,6] Akd.2 func222 (by
 rintro⟨(c:bv),(t:ByteArray),(a:D_),_⟩ hp;exact hq (.cl A6 (c.bg,(t,a,()),()) λ(z2:B_)=>.lf Ee (z2.1,())))
def freshEntry (t:ByteArray) (a:D_) (now:Int) (e:bU):Bool:=decide (e.top=t)&&(decide (e.to=a)&&decide (now<=e.until_))
def lookUp (c:bv) (t:ByteArray) (a:D_) (now:Int):Option R_:=(c.bg.find? (freshEntry t a now)).map (·.bd)
abbrev Ib:Fct:=⟨[.v (.el .cache),.v (.el .str),.v (.el .addr),.v (.el .int)],[.el .bd,.el .bool],λ(x:fR)=>x.1.bg.length<=1000000000000,λ(x:fR)=>((lookUp x.1 x.2.1 x.2.2.1 x.2.2.2.1).getD notFound,(lookUp x.1 x.2.1 x.2.2.1 x.2.2.2.1).isSome,())⟩
def NK {α:Type} [Inhabited α] (p:α->Bool):∀ (l:List α) (i:Int),0<=i->l.find? p=if 0<=fidx p l i then some (l.getD (fidx p l i-i).toNat default) else none:=by
 intro l
 induction l with
 | nil=>intro i _;simp[fidx]
 | cons x l ih=>
  intro i hi;simp only[List.find?_cons,fidx];by_cases hx:p x=true
  ·simp[hx,hi]
  ·
   have hx:p x=false:=by simpa using hx
   have h1:=DI p l (i+1) o_;have h2:=ih (i+1) o_;simp only[hx,cX,bC,h2];split
   ·rename_i h3;have h4:i+1<=fidx p l (i+1):=by
     have:∀ (l:List α) (i:Int),0<=i->0<=fidx p l i->i<=fidx p l i:=by
      intro l
      induction l with
      | nil=>intro i _ h;simp[fidx] at h
      | cons y l ih=>
       intro i hi h;simp only[fidx] at h ⊢;split
       ·omega
       ·grind
     grind
    have h5:(fidx p l (i+1)-i).toNat=(fidx p l (i+1)-(i+1)).toNat+1:=o_
    rw[h5];rfl
   ·rfl
abbrev F2 (c:bv) (t:ByteArray) (a:D_) (now:Int):LInv:=⟨[⟨.s,10,true,.el .int⟩,⟨.b,4,false,.el .cache⟩,⟨.b,6,true,.el .addr⟩,⟨.b,8,true,.el .bd⟩],λ(z x:fS)=>(((0<=x.1/\x.1<=c.bg.length/\(c.bg.drop x.1.toNat).find? (freshEntry t a now)=c.bg.find? (freshEntry t a now))/\x.2.1=z.2.1)/\x.2.2.1=z.2.2.1)/\x.2.2.2.1=z.2.2.2.1,λ(x:fS)=>c.bg.length-x.1.toNat⟩
def Amd:=Akq.a Ib<|Fct.p (KP [1,3,4,6,8,9,10] [15,45]) (λ⟨c,t,a,now,_⟩=>lv [(2,F2 c t a now)]) Akq.2 func157 (by
 rintro⟨(c:bv),(t:ByteArray),(a:D_),(now:Int),_⟩ hp;exact hg (let M_:=F2 c t a now;.lq (Int×bv×D_×R_×PUnit) M_.inv M_.m ((0:Int),(c,(a,(default,())))) λy1 bk1=>let L_:=inB y1.1 y1.2.1.bg.length;let H_:=y1.2.1.bg.getD y1.1.toNat default;let E_:Out:=.re (Value.string t)<|.re (Value.int IntKind.i64 now)<|.bk (bk1 (w1 y1.1,(y1.2.1,(y1.2.2.1,(y1.2.2.2.1,())))));.br (decide (y1.1<(y1.2.1.bg.length:Int))) (.ob L_<|.br (H_.top.toList==t.toList) (.ob L_<|.br (H_.to.host==y1.2.2.1.host&&(H_.to.path==y1.2.2.1.path&&true)) (.ob L_<|.br (decide (H_.until_>=now)) (.ob L_<|.lf Ib (H_.bd,true,())) E_) E_) E_) (.cl DB () λz2=>.lf Ib (z2.1,false,()))) (an_ @lookUp.eq_1<|@freshEntry.eq_1))
abbrev Hg:Fct:=⟨[.v (.el .entry),.p (.el .str),.p (.el .addr),.p (.el .int)],[.el .bool],λ(x:fT)=>True,λ(x:fT)=>(freshEntry x.2.1 x.2.2.1 x.2.2.2.1 x.1,())⟩
def Ak4:=Amd.a Hg<|Fct.o [1,2,3,4,5] Amd.2 func221 (by
 rintro⟨(e:bU),(t:ByteArray),(a:D_),(now:Int),_⟩ hp;exact hg (.br (e.top.toList==ByteArray.toList t) (.br (e.to.host==a.host&&(e.to.path==a.path&&true)) (.lf Hg (decide (e.until_>=now),())) (.lf Hg (false,()))) (.lf Hg (false,()))) (@freshEntry.eq_1))
abbrev Bf:Fct:=⟨[aL .entry,.c 221 [.el .str,.el .addr,.el .int]],[rI],λx=>x.1.length<=1000000000000000000/\∀ c,Hg.pre (c,x.2.1),λx=>(fidx (λc=>(Hg.fn (c,x.2.1)).1) x.1 0,())⟩
abbrev Az (l:(List bU)) (u:(ByteArray×D_×Int×Unit)):LInv:=⟨[⟨.s,8,true,.el .int⟩],λ_ (x:B_)=>0<=x.1/\x.1<=l.length/\fidx (λc=>(Hg.fn (c,u)).1) l 0=fidx (λc=>(Hg.fn (c,u)).1) (l.drop x.1.toNat) x.1,λ(x:B_)=>l.length-x.1.toNat⟩
def Al2:=Ak4.a Bf<|Fct.p (KP [0,1,4,5,7,8] [9,16]) (λ⟨l,u,_⟩=>lv [(2,Az l u)]) Ak4.2 func220 (by
 rintro⟨(l:List bU),(u:ByteArray×D_×Int×PUnit),_⟩ hp;refine ho (lpx (Az l u) ((0:Int),()) λ(y1:B_) bk1=>.br (decide (y1.1<(l.length:Int))) (.ob (inB y1.1 l.length)<|.cl Hg (l.getD y1.1.toNat default,u.1,u.2.1,u.2.2.1,()) λz2=>.br (z2.1) (.lf Bf (y1.1,())) (.re (l)<|.re (enc Ty.str u.1)<|.re (enc Ty.addr u.2.1)<|.re (enc Ty.int u.2.2.1)<|.re (Value.int IntKind.i64 (l.length:Int))<|.bk (bk1 (w1 y1.1,())))) (.lf Bf ((-1:Int),()))) ?_;refine Am ?_ λ(y1:B_) i1=>Aa (λh2=>Ab ?_ λ_=>Ae trivial λ_=>Aa (λh4=>lfY ?_) λh4=>Ai<|Ai<|Ai<|Ai<|Ai<|AR ?_) (λh2=>lfY ?_)<;>(try simp only[std,Nat.reduceAdd] at *)<;>(try have hp2:=hp.2)<;>(try have hp1:=hp.1)<;>(first|trivial|omega|grind[FS,A_,HO,G_,F_,maxLen,fidx]))
def Aj4:=Al2.a Ib<|Fct.o (KP [4,5,6,7,8,9,10] [16]) Al2.2 func126 (by
 rintro⟨(c:bv),(t:ByteArray),(a:D_),(now:Int),_⟩ hp;exact hg (.cl Bf (c.bg,(t,a,now,()),()) λ(z2:B_)=>.br (decide (z2.1<0)) (.cl DB () λz3=>.lf Ib (z3.1,false,())) (.ob (inB z2.1 c.bg.length)<|.lf Ib ((c.bg.getD z2.1.toNat default).bd,true,()))) (an_ @lookUp.eq_1<|an_ (DI (freshEntry t a now) c.bg 0 o_)<|(NK (freshEntry t a now) c.bg 0 o_)))
def modM (n m:Int):Int:=if 1<=m/\m<=1000000000000 then n.emod m else 0
abbrev Ac1:Fct:=⟨[.v (.el .int),.v (.el .int)],[.el .int],λ(x:ah)=>-9223372036854775808<=x.1/\x.1<=9223372036854775807,λ(x:ah)=>(modM x.1 x.2.1,())⟩
def P5 {n m:Int} (hm:0<m):(n.tmod m+m).tmod m=n.emod m:=by
 have h1:=Int.tmod_lt_of_pos n hm;have h2 : -m<n.tmod m:=by have:=Int.lt_tmod_of_pos n hm;omega
 rw[Int.tmod_eq_emod_of_nonneg o_];rw[Int.tmod_eq_emod];split
 ·simp;rfl
 ·rw[show n % m-m.natAbs+m=n % m from o_];simp;rfl
def Qq {n m:Int} (hm:0<m):(if n.tmod m<0 then n.tmod m+m else n.tmod m)=n.emod m:=by
 have h0:=Int.emod_nonneg n (show m≠0 from o_);have h3:=Int.emod_lt_of_pos n hm;have e0:n.emod m=n % m:=rfl;grind
def AlC:=Aj4.a Ac1<|Fct.o (KP [0,1,4] [7]) Aj4.2 func449 (by
 rintro⟨(n:Int),(m:Int),_⟩ hp;refine ho (.cl Au (m,(1:Int),(1000000000000:Int),()) λz2=>.br (!z2.1) (.lf Ac1 ((0:Int),())) (.ob (m≠(0:Int))<|.ob (m≠(0:Int))<|.lf Ac1 ((wr (Int.tmod n m+m)).tmod m,()))) ?_;refine Ae trivial λ_=>(Aa (λh1=>lfY ?_) λh1=>Ab ?_ λ_=>Ab ?_ λ_=>lfY ?_)<;>(by_cases hm:1<=m/\m<=1000000000000)<;>(try have e1:=P5 (n:=n) (m:=m) o_)<;>(try have e2:=Qq (n:=n) (m:=m) o_)<;>(try have e3:=Int.tmod_lt_of_pos n (show 0<m from o_))<;>(try have e4:=Int.lt_tmod_of_pos n (show 0<m from o_))<;>(try simp only[std,Nat.reduceAdd,inRange,modM] at *)<;>(try simp(disch:=omega) only[FS,A_] at *)<;>(try simp(disch:=omega) only[I_,J_])<;>(try simp only[Z_,ep,aH,ca] at *)<;>(first|omega|skip)<;>(try rw[Ah o_])<;>(try rw[I_ hm])<;>(first|omega|exact e1|(rw[I_ o_] at e2;exact e2)|(rw[J_ o_] at e2;exact e2)|(rw[J_ hm])))
def Anx:=AlC.a Ac1<|Fct.o (KP [0,1,4,5] [8,13]) AlC.2 func444 (by
 rintro⟨(n:Int),(m:Int),_⟩ hp;refine ho (.cl Au (m,(1:Int),(1000000000000:Int),()) λz2=>.br (!z2.1) (.lf Ac1 ((0:Int),())) (.ob (m≠(0:Int))<|.br (decide (Int.tmod n m<0)) (.lf Ac1 (wr (Int.tmod n m+m),())) (.lf Ac1 (Int.tmod n m,())))) ?_;refine Ae trivial λ_=>(Aa (λh1=>lfY ?_) λh1=>Ab ?_ λ_=>Aa (λh3=>lfY ?_) λh3=>lfY ?_)<;>(by_cases hm:1<=m/\m<=1000000000000)<;>(try have e1:=P5 (n:=n) (m:=m) o_)<;>(try have e2:=Qq (n:=n) (m:=m) o_)<;>(try have e3:=Int.tmod_lt_of_pos n (show 0<m from o_))<;>(try have e4:=Int.lt_tmod_of_pos n (show 0<m from o_))<;>(try simp only[std,Nat.reduceAdd,inRange,modM] at *)<;>(try simp(disch:=omega) only[FS,A_] at *)<;>(try simp(disch:=omega) only[I_,J_])<;>(try simp only[Z_,ep,aH,ca] at *)<;>(first|omega|skip)<;>(try rw[Ah o_])<;>(try rw[I_ hm])<;>(first|omega|exact e1|(rw[I_ o_] at e2;exact e2)|(rw[J_ o_] at e2;exact e2)|(rw[J_ hm])))
def hashI:List Int->Int->Int
 | [],d=>d
 | x::l,d=>hashI l ((d*1000003+modM x 2147483647+13).tmod 2147483647)
def W4 {l:List Int} {i:Nat} {d:Int} (h:i<l.length):hashI (l.drop i) d=hashI (l.drop (i+1)) ((d*1000003+modM (l.getD i default) 2147483647+13).tmod 2147483647):=by rw[HO h];rfl
def SS {l:List Int} {i:Nat} {d:Int} (h:l.length<=i):hashI (l.drop i) d=d:=by rw[bR h];rfl
def Mb (x:Int):0<=modM x 2147483647/\modM x 2147483647<2147483647:=by
 have h0:=Int.emod_nonneg x (show(2147483647:Int)≠0 from o_);have h3:=Int.emod_lt_of_pos x (show(0:Int)<2147483647 from o_);have e0:modM x 2147483647=x % 2147483647:=rfl;omega
def Mf {x:Int} (h:0<=x):0<=x.tmod 2147483647/\x.tmod 2147483647<2147483647:=by
 grind
abbrev ZL:Fct:=⟨[.v (.sl .int)],[.el .int],λ(x:W_)=>x.1.length<=1000000000000/\∀ i,i<x.1.length->-9223372036854775808<=x.1.getD i default/\x.1.getD i default<=9223372036854775807,λ(x:W_)=>(hashI x.1 11,())⟩
abbrev Hx (l:(List Int)):LInv:=⟨[⟨.s,3,true,.el .int⟩,⟨.s,4,true,.el .int⟩],λ_ (x:ah)=>0<=x.2.1/\x.2.1<=l.length/\0<=x.1/\x.1<2147483647/\hashI (l.drop x.2.1.toNat) x.1=hashI l 11,λ(x:ah)=>l.length-x.2.1.toNat⟩
def Am9:=Anx.a ZL<|Fct.p (KP [0,2,3,4] [8]) (λ⟨l,_⟩=>lv [(3,Hx l)]) Anx.2 func428 (by
 rintro⟨(l:List Int),_⟩ hp;refine ho (lpx (Hx l) ((11:Int),((0:Int),())) λ(y1:ah) bk1=>.br (decide (y1.2.1<(l.length:Int))) (.ob (inB y1.2.1 l.length)<|.cl Ac1 (l.getD y1.2.1.toNat default,(2147483647:Int),()) λ(z2:B_)=>.ob ((2147483647:Int)≠(0:Int))<|.ob (l=l)<|.ob (Value.int IntKind.i64 0=Value.int IntKind.i64 (0:Int))<|.ob (bk1 ((wr (wr (wr (y1.1*(1000003:Int))+z2.1)+13)).tmod (2147483647:Int),(w1 y1.2.1,())))<|.ok) (.lf ZL (y1.1,()))) ?_;refine Am ?_ λ(y1:ah) i1=>Aa (λh2=>Ab ?_ λ_=>Ae ?_ λ_=>Ab ?_ λ_=>Ab rfl λ_=>Ab rfl λ_=>Ab ?_ λ_=>trivial) (λh2=>lfY ?_)<;>(try simp only[std,Nat.reduceAdd] at *)<;>obtain⟨hp1,hp2⟩:=hp<;>(try obtain⟨a1,a2,a3,a4,a5⟩:=i1)<;>(try have hm:=Mb (l.getD y1.2.1.toNat default);have ht:=Mf (x:=y1.1*1000003+modM (l.getD y1.2.1.toNat default) 2147483647+13) o_)<;>(try simp(disch:=omega) only[FS,A_] at *)<;>(first|trivial|omega|exact⟨o_,o_,o_,o_,rfl⟩|exact hp2 _ o_|skip)
 ·rw[W4 o_] at a5;exact⟨⟨o_,o_,ht.1,ht.2,a5⟩,o_⟩
 ·rw[SS o_] at a5;exact a5)
abbrev HK (l:(List Int)):LInv:=⟨[⟨.s,3,true,.el .int⟩,⟨.s,8,true,.el .int⟩],λ_ (x:ah)=>0<=x.2.1/\x.2.1<=l.length/\0<=x.1/\x.1<2147483647/\hashI (l.drop x.2.1.toNat) x.1=hashI l 11,λ(x:ah)=>l.length-x.2.1.toNat⟩
def AmI:=Am9.a ZL<|Fct.p (KP [0,2,3,5,6,7,8] [9]) (λ⟨l,_⟩=>lv [(3,HK l)]) Am9.2 func417 (by
 rintro⟨(l:List Int),_⟩ hp;refine ho (lpx (HK l) ((11:Int),((0:Int),())) λ(y1:ah) bk1=>.br (decide (y1.2.1<(l.length:Int))) (.ob (inB y1.2.1 l.length)<|.cl Ac1 (l.getD y1.2.1.toNat default,(2147483647:Int),()) λ(z2:B_)=>.ob ((2147483647:Int)≠(0:Int))<|.ob (l=l)<|.ob (Value.int IntKind.i64 0=Value.int IntKind.i64 (0:Int))<|.ob (l=l)<|.ob (Value.int IntKind.i64 (l.length:Int)=Value.int IntKind.i64 (l.length:Int))<|.ob (bk1 ((wr (wr (wr (y1.1*(1000003:Int))+z2.1)+13)).tmod (2147483647:Int),(w1 y1.2.1,())))<|.ok) (.lf ZL (y1.1,()))) ?_;refine Am ?_ λ(y1:ah) i1=>Aa (λh2=>Ab ?_ λ_=>Ae ?_ λ_=>Ab ?_ λ_=>Ab rfl λ_=>Ab rfl λ_=>Ab rfl λ_=>Ab rfl λ_=>Ab ?_ λ_=>trivial) (λh2=>lfY ?_)<;>(try simp only[std,Nat.reduceAdd] at *)<;>obtain⟨hp1,hp2⟩:=hp<;>(try obtain⟨a1,a2,a3,a4,a5⟩:=i1)<;>(try have hm:=Mb (l.getD y1.2.1.toNat default);have ht:=Mf (x:=y1.1*1000003+modM (l.getD y1.2.1.toNat default) 2147483647+13) o_)<;>(try simp(disch:=omega) only[FS,A_] at *)<;>(first|trivial|omega|exact⟨o_,o_,o_,o_,rfl⟩|exact hp2 _ o_|skip)
 ·rw[W4 o_] at a5;exact⟨⟨o_,o_,ht.1,ht.2,a5⟩,o_⟩
 ·rw[SS o_] at a5;exact a5)
def bti (b l:List Int):List Int:=(b.length:Int)::l
abbrev GR:Fct:=⟨[.v (.sl .u8)],[.sl .int],λ(x:W_)=>x.1.length<=68719476736/\∀ i,i<x.1.length->0<=x.1.getD i default/\x.1.getD i default<=255,λ(x:W_)=>(bti x.1 x.1,())⟩
abbrev BA (b:(List Int)):LInv:=⟨[⟨.s,3,true,.sl .int⟩,⟨.s,4,true,.el .int⟩],λ_ (x:an)=>0<=x.2.1/\x.2.1<=b.length/\x.1=bti b (b.take x.2.1.toNat),λ(x:an)=>b.length-x.2.1.toNat⟩
def AjH:=AmI.a GR<|Fct.p (KP [0,2,3,4] [11]) (λ⟨b,_⟩=>lv [(3,BA b)]) AmI.2 func429 (by
 rintro⟨(b:List Int),_⟩ hp;exact hg (.lq (List Int×Int×PUnit) (BA b).inv (BA b).m ([(b.length:Int)],((0:Int),())) λy1 bk1=>.br (decide (y1.2.1<(b.length:Int))) (.ob (inB y1.2.1 b.length)<|.ap (y1.1.length+[wr (b.getD y1.2.1.toNat default)].length) 8<|.re (b)<|.bk (bk1 (y1.1++[wr (b.getD y1.2.1.toNat default)],(w1 y1.2.1,())))) (.lf GR (y1.1,()))) (an_ @S_<|an_ @aZ<|@bti.eq_1))
abbrev By (b:(List Int)):LInv:=⟨[⟨.s,3,true,.sl .int⟩,⟨.s,11,true,.el .int⟩],λ_ (x:an)=>0<=x.2.1/\x.2.1<=b.length/\x.1=bti b (b.take x.2.1.toNat),λ(x:an)=>b.length-x.2.1.toNat⟩
def Aml:=AjH.a GR<|Fct.p (KP [0,2,3,5,9,10,11] [12]) (λ⟨b,_⟩=>lv [(3,By b)]) AjH.2 func418 (by
 rintro⟨(b:List Int),_⟩ hp;exact hg (.lq (List Int×Int×PUnit) (By b).inv (By b).m ([(b.length:Int)],((0:Int),())) λy1 bk1=>.br (decide (y1.2.1<(b.length:Int))) (.ob (inB y1.2.1 b.length)<|.ap (y1.1.length+[wr (b.getD y1.2.1.toNat default)].length) 8<|.re (b)<|.re (b)<|.re (Value.int IntKind.i64 (b.length:Int))<|.bk (bk1 (y1.1++[wr (b.getD y1.2.1.toNat default)],(w1 y1.2.1,())))) (.lf GR (y1.1,()))) (an_ @S_<|an_ @aZ<|@bti.eq_1))
abbrev A2:Fct:=⟨[.v (.el .int)],[.el .str],λ(x:B_)=>-9223372036854775808<=x.1/\x.1<=9223372036854775807,λ(x:B_)=>(Kt x.1,())⟩
abbrev Dr (n:Int):LInv:=⟨[⟨.s,3,true,.el .str⟩,⟨.s,4,true,.el .int⟩],λ_ (x:ai)=>n≠0/\-9223372036854775808<=x.2.1/\x.2.1<=9223372036854775807/\(x.2.1:Int).natAbs+4*x.1.size<=n.natAbs+(if x.2.1=0 then 4 else 0)/\Ady (x.2.1:Int).natAbs x.1=Ady n.natAbs ⟨#[]⟩,λ(x:ai)=>(x.2.1:Int).natAbs⟩
def An0:=Aml.a A2<|Fct.p (KP [0,2,3,4,5] [7,10,16,27]) (λ⟨n,_⟩=>lv [(5,Dr n)]) Aml.2 func402 (by
 rintro⟨(n:Int),_⟩ hp;refine ho (let U_:=(⟨#[45]⟩:ByteArray);let L_:=(10:Int)≠(0:Int);let E_:=(⟨#[]⟩:ByteArray);let Q_:=Value.string E_=Value.string E_;.br (n==0) (.lf A2 ((⟨#[48]⟩:ByteArray),())) (lpx (Dr n) (E_,(n,())) λ(y2:ai) bk2=>let aj:=y2.2.1.tdiv (10:Int);let M_:=wr ((48:Int)+y2.2.1.tmod (10:Int));let H_:=wr ((48:Int)+wr ((0:Int)-y2.2.1.tmod (10:Int)));.br (y2.2.1 != 0) (.ob L_<|.br (decide (y2.2.1.tmod (10:Int)<(0:Int))) (.ob (True)<|.ob (sameSize (List.foldl (λr n=>r.push (UInt8.ofNat n.toNat)) ByteArray.empty [IntKind.u8.wrap H_]) y2.1)<|.ob L_<|.ob (Value.int IntKind.i64 n=Value.int IntKind.i64 n)<|.ob Q_<|.ob (bk2 (List.foldl (λr n=>r.push (UInt8.ofNat n.toNat)) ByteArray.empty [IntKind.u8.wrap H_]++y2.1,(wr aj,())))<|.ok) (.ob (True)<|.ob (sameSize (List.foldl (λr n=>r.push (UInt8.ofNat n.toNat)) ByteArray.empty [IntKind.u8.wrap M_]) y2.1)<|.ob L_<|.ob (Value.int IntKind.i64 n=Value.int IntKind.i64 n)<|.ob Q_<|.ob (bk2 (List.foldl (λr n=>r.push (UInt8.ofNat n.toNat)) ByteArray.empty [IntKind.u8.wrap M_]++y2.1,(wr aj,())))<|.ok)) (.br (decide (n<0)) (.ob (sameSize U_ y2.1)<|.lf A2 (U_++y2.1,())) (.lf A2 (y2.1,()))))) ?_;refine Aa (λh1=>lfY ?_) λh1=>Am ?_ λ(y2:ai) i2=>Aa (λh3=>Ab ?_ λ_=>Aa (λh5=>Ab trivial λ_=>Ab ?_ λ_=>Ab ?_ λ_=>Ab rfl λ_=>Ab rfl λ_=>Ab ?_ λ_=>trivial) λh5=>Ab trivial λ_=>Ab ?_ λ_=>Ab ?_ λ_=>Ab rfl λ_=>Ab rfl λ_=>Ab ?_ λ_=>trivial) λh3=>Aa (λh12=>Ab ?_ λ_=>lfY ?_) λh12=>lfY ?_;all_goals try (have hk:=Nat.mod_lt y2.2.1.natAbs (show 0<10 from o_);have ht:=Acd y2.2.1)
 all_goals (try have hv:=Ac6 y2.2.1)<;>(try simp only[std,Nat.reduceAdd] at *)<;>(first|trivial|omega|skip)<;>(try obtain⟨a1,a2,a3,a4,a5⟩:=i2)<;>(first|trivial|omega|skip)<;>(try simp only[h5,aS,bC] at ht)<;>(try rw[J_ o_] at ht)<;>(try rw[Ah (n:=0-_) o_,show(0:Int)-y2.2.1.tmod 10=((y2.2.1.natAbs % 10:Nat):Int) from o_,AmU hk,AaO hk] at *)<;>(try rw[ht,AmU hk,AaO hk] at *)<;>(try rw[J_ h3] at a4)<;>(try have e1:IntKind.i64.wrap (y2.2.1.tdiv 10)=y2.2.1.tdiv 10:=Ah o_;rw[e1])
 ·rw[h1,Zl]
 ·unfold sameSize;rw[show ByteArray.size ⟨#[UInt8.ofNat (48+y2.2.1.natAbs % 10)]⟩=1 from rfl];omega
 ·rw[Sv o_] at a5;rw[hv,aQ,show ByteArray.size ⟨#[UInt8.ofNat (48+y2.2.1.natAbs % 10)]⟩=1 from rfl];exact⟨⟨h1,o_,o_,by split<;>omega,a5⟩,o_⟩
 ·unfold sameSize;rw[show ByteArray.size ⟨#[UInt8.ofNat (48+y2.2.1.natAbs % 10)]⟩=1 from rfl];omega
 ·rw[Sv o_] at a5;have hv':((y2.2.1.natAbs:Nat):Int)=y2.2.1.natAbs:=rfl;rw[hv,aQ,show ByteArray.size ⟨#[UInt8.ofNat (48+y2.2.1.natAbs % 10)]⟩=1 from rfl];exact⟨⟨h1,o_,o_,by split<;>omega,a5⟩,o_⟩
 ·unfold sameSize;rw[show ByteArray.size ⟨#[45]⟩=1 from rfl];rw[I_ h3] at a4;omega
 ·rw[h3] at a5;rw[AdD h12,<-a5];rfl
 ·rw[h3] at a5;rw[Aca o_,<-a5];rfl)
def Wm:Go.Proofs.LaysM.n171 Tryz.prog laysCmp_r:=by repeat' first|kernel_rfl|constructor|intro _
def Alh:=An0.a Afc<|AgT k_ (Go.Proofs.Any.strconv_Itoa Wm)
def AnS:=Alh.a A2<|Fct.o [0,2] Alh.2 func384 (by
 rintro⟨(n:Int),_⟩ hp;exact hq (.cl Afc (n,()) λz2=>.lf A2 (z2.1,())))
def Rl (x:Int):0<=bits .and .i64 x 255/\bits .and .i64 x 255<=255:=by
 have h:(BitVec.ofInt 64 x &&& BitVec.ofInt 64 255).toNat<=255:=by rw[BitVec.toNat_and];exact Nat.and_le_right
 have e:bits .and .i64 x 255=((BitVec.ofInt 64 x &&& BitVec.ofInt 64 255).toNat:Int):=by show IntKind.i64.wrap ((BitVec.ofInt 64 x &&& BitVec.ofInt 64 255).toNat:Int)=_;exact FS o_ o_
 rw[e];omega
open Go.RowKit in
set_option maxHeartbeats 2000000 in
def YR (g n cap:Nat) (i:Nat) (h:Int) (ad:Option Addr) (w:World) (hi1:i<=9223372036854775807) (hn:n<=1000000000000000000)
 (hx0:w.cell? ⟨g,0,none⟩=some (.slice ad n cap)) (hx1:w.cell? ⟨g,1,none⟩=some (.int .i64 i)) (hx2:w.cell? ⟨g,2,none⟩=some (.int .i64 h))
 (f1:w.frozen? ⟨g,1,none⟩=false) (f2:w.frozen? ⟨g,2,none⟩=false)
 (hb:i<n->∃ gb ob z,ad=some ⟨gb,ob,none⟩/\gb≠g/\w.cell? ⟨gb,ob+i,none⟩=some (.int .u8 z)) :
 Calls Tryz.prog 200 #[.pointer (some ⟨g,0,none⟩)] w λe w'=>∃ (x:Int) (i':Nat) (h':Int) (q:Nat),e=.returned (.int .i64 x)/\0<=x/\x<=255/\i'<=9223372036854775807/\((∃ k,h'=wrap64 k) /\
  (w'=((w.setCell ⟨g,2,none⟩ (.int .i64 h')).drewN q).setCell ⟨g,1,none⟩ (.int .i64 i')\/(i'=i/\∃ q',w'=((w.setCell ⟨g,2,none⟩ (.int .i64 h')).drewN q').drewN q))):=by
 go_enter func200,Tryz.ntmps200
 go_wp2
 go_quiet (fail)
 go_wp2
 go_quiet (fail)
 go_wp2
 ·have hlt:i<n:=o_
  obtain⟨gb,ob,z,rfl,hne,hz⟩:=hb hlt;clear hb;have hz':(w.setCell ⟨g,2,none⟩ (Value.int IntKind.i64 (IntKind.i64.wrap (IntKind.i64.wrap (h*6364136223846793005)+1442695040888963407)))).cell? ⟨gb,ob+i,none⟩=some (.int .u8 z):=by rw[World.cell?_setCell_other];exact hz;simp
  go_quiet (fail)
  go_wp2
  go_ret
  exact⟨_,i+1,_,_,rfl,(Rl _).1,(Rl _).2,o_,⟨_,rfl⟩,.inl rfl⟩
 ·go_ret
  exact⟨_,i,_,_,rfl,(Rl _).1,(Rl _).2,o_,⟨_,rfl⟩,.inr ⟨rfl,_,rfl⟩⟩
open Go.RowKit in
def Acz (k:Int) : -9223372036854775808<=wrap64 k/\wrap64 k<=9223372036854775807:=by
 unfold wrap64;omega
def WH {w:World} {g j:Nat} {r:Array Value} {e:TypeId} {v:Value} (h:w.heap[g]? = some (.cells r e (0,0))):(w.setCell ⟨g,j,none⟩ v).heap[g]? = some (.cells (r.setIfInBounds j v) e (0,0))/\(∀ b,b≠g->(w.setCell ⟨g,j,none⟩ v).heap[b]? = w.heap[b]?)/\(w.setCell ⟨g,j,none⟩ v).heap.size=w.heap.size:=by
 refine⟨?_,λb hb=>?_,?_⟩
 ·simp[World.setCell,Array.getElem?_modify,h]
 ·simp[World.setCell,Array.getElem?_modify,Ne.symm hb]
 ·simp[World.setCell]
abbrev XZ:Xct:=⟨[.u],[.el .int],λ(x:T_)=>True,λ(x:T_) (y:B_)=>0<=y.1/\y.1<=255⟩
open Go.RowKit in
def AgW:XZ.ok Tryz.prog 200:=by
 rintro⟨u,⟨⟩⟩ _;intro w vs G hB hA;obtain⟨v0,hv0,g,rfl,hg⟩:=hA.tm 0 .cur rfl;have hvs:vs = #[.pointer (some ⟨g,0,none⟩)]:=by
  apply Array.ext
  ·rw[hA.sz];rfl
  ·intro i h1 h2
   match i,h1,h2 with
   | 0,h1,h2=>rw[Array.getElem?_eq_getElem h1] at hv0;injection hv0
   | i+1,h1,h2=>exact absurd (show i+1<1 from h2) o_
 subst hvs;obtain⟨xs,b,i,h,ty,hh,hb,hl,hi0,hi1,hh0,hh1⟩:=hA.cr g hg;obtain⟨a,cap,rfl,hcap,hrow⟩:=hb;obtain⟨i,rfl⟩:∃ k:Nat,i=k:=⟨i.toNat,o_⟩;have c0:∀ j,w.cell? ⟨g,j,none⟩=(#[Value.slice a xs.length cap,.int .i64 (i:Int),.int .i64 h]:Array Value)[j]?:=λj=>by simp[World.cell?,hh]
 have fz:∀ j,w.frozen? ⟨g,j,none⟩=false:=λj=>by simp[World.frozen?,hh]
 refine(YR g xs.length cap i h a w o_ hl (c0 0) (c0 1) (c0 2) (fz 1) (fz 2) λhlt=>?_).mono ?_
 ·rcases hrow with h0|⟨gb,ob,row,e,fr,rfl,hs,hbk,hc⟩
  ·omega
  ·obtain⟨u,hu,hr⟩:=hc i hlt 0 (by decide);have e0:cell .u8 xs i 0=(enc .u8 xs[i]).getD 0 .nl:=H0 (t:=.u8) (xs:=xs) (by simp[hlt]) 0;have hr:TR w (src G none) (fcC (cell .u8 xs i 0)) u:=hr;rw[e0] at hr;obtain⟨rfl,_⟩:=hr;refine⟨gb,ob,xs[i],rfl,λe=>?_,?_⟩
   ·subst e;rw[show G.ow gb=.free from hs] at hg;cases hg
   ·have:ob+i*Ty.u8.width+0=ob+i:=by show ob+i*1+0=ob+i;omega
    rw[this] at hu;simp[World.cell?,hbk,hu]
 ·rintro e w' ⟨x,i',h',q,rfl,hx0,hx1,hi',⟨k,rfl⟩,hw⟩;have hk:=Acz k;obtain⟨s1,s2,s3⟩:=WH (j:=2) (v:=.int .i64 (wrap64 k)) hh;have fin:Onward w w'/\(∀ b,b≠g->w'.heap[b]? = w.heap[b]?)/\CurStep w w' g:=by
   rcases hw with rfl|⟨rfl,q',rfl⟩
   ·obtain⟨t1,t2,t3⟩:=WH (w:=(w.setCell ⟨g,2,none⟩ (.int .i64 (wrap64 k))).drewN q) (j:=1) (v:=.int .i64 (i':Int)) s1;refine⟨⟨rfl,rfl,⟨rfl,DrLe.add _ _⟩,?_⟩,λb hb=>(t2 b hb).trans (s2 b hb),?_⟩
    ·rw[t3];exact Nat.le_of_eq s3.symm
    ·exact⟨_,_,_,i',_,_,hh,t1,o_,o_,hk.1,hk.2⟩
   ·refine⟨⟨rfl,rfl,⟨rfl,DrLe.trans (DrLe.add _ _) (DrLe.add _ _)⟩,Nat.le_of_eq s3.symm⟩,λb hb=>s2 b hb,?_⟩;exact⟨_,_,_,i',_,_,hh,s1,o_,o_,hk.1,hk.2⟩
  obtain⟨f1,f2,f3⟩:=fin;refine⟨_,_,⟨(x,()),⟨hx0,hx1⟩,rfl⟩,rfl,f1,λb hb=>f2 b λe=>?_,λb hb=>?_,λ_ _=>False,by simp,by simp,?_,?_,?_⟩
  ·subst e;rw[hg] at hb;cases hb
  ·by_cases e:b=g
   ·subst e;exact f3
   ·exact(hA.cr b hb).same (f2 b e)
  ·exact⟨_,rfl,⟨rfl,rfl⟩,rfl⟩
  ·intro m T hm;cases hm
  ·intro b cs hb;cases hb
def Zh (x:Int):0<=bits .and .i64 x 1073741823/\bits .and .i64 x 1073741823<=1073741823:=by
 have h:(BitVec.ofInt 64 x &&& BitVec.ofInt 64 1073741823).toNat<=1073741823:=by rw[BitVec.toNat_and];exact Nat.and_le_right
 have e:bits .and .i64 x 1073741823=((BitVec.ofInt 64 x &&& BitVec.ofInt 64 1073741823).toNat:Int):=by show IntKind.i64.wrap ((BitVec.ofInt 64 x &&& BitVec.ofInt 64 1073741823).toNat:Int)=_;exact FS o_ o_
 rw[e];omega
open Go.RowKit in
set_option maxRecDepth 100000 in
set_option maxHeartbeats 2000000 in
def AcW (n cap:Nat) (ad:Option Addr) (w:World) (hn:n<=1000000000000000000) (hb:∀ i,i<n->∃ gb ob z,ad=some ⟨gb,ob,none⟩/\w.cell? ⟨gb,ob+i,none⟩=some (.int .u8 z)) :
 Calls Tryz.prog 34 #[.slice ad n cap] w λe w'=>∃ (h:Int) (q:Nat),e=.returned (.pointer (some ⟨w.heap.size,0,none⟩))/\-9223372036854775808<=h/\h<=9223372036854775807/\w'=(w.drewN q).alloc (.cells #[.slice ad n cap,.int .i64 0,.int .i64 h] 133):=by
 go_enter func34,Tryz.ntmps34
 go_wp2
 go_loop [3,4] (λh i=>∃ (k:Nat) (x:Int),k<=4000/\i=.int .i64 k/\h=.int .i64 x/\-9223372036854775808<=x/\x<=9223372036854775807) (λ_ i=>4001-(intOf i).toNat)
 case atStart=>exact⟨0,_,o_,rfl,rfl,o_,o_⟩
 case round=>
  obtain⟨k,x,hk,rfl,rfl,hx0,hx1⟩:=hrel;by_cases h1:k<n
  ·by_cases h2:k<4000
   ·obtain⟨gb,ob,z,rfl,hz⟩:=hb k h1;clear hb
    go_wp2
    go_round
    case rel=>exact⟨k+1,_,o_,by go_num,rfl,Int.le_trans o_ (Zh _).1,Int.le_trans (Zh _).2 o_⟩
    case measure=>simp only[intOf];omega
   ·go_wp2
    go_ret
    exact⟨rfl,x,hx0,hx1,0,rfl⟩
  ·go_wp2
   go_ret
   exact⟨rfl,x,hx0,hx1,0,rfl⟩
open Go.RowKit in
def AhZ:UB Tryz.prog 34:=by
 intro w v S xs hv _ hl;obtain⟨a,cap,rfl,hcap,hrow⟩:=hv;refine(AcW xs.length cap a w hl λi hlt=>?_).mono ?_
 ·rcases hrow with h0|⟨gb,ob,row,e,fr,rfl,hs,hbk,hc⟩
  ·omega
  ·obtain⟨u,hu,hr⟩:=hc i hlt 0 (by decide);have e0:cell .u8 xs i 0=(enc .u8 xs[i]).getD 0 .nl:=H0 (t:=.u8) (xs:=xs) (by simp[hlt]) 0;have hr:TR w S (fcC (cell .u8 xs i 0)) u:=hr;rw[e0] at hr;obtain⟨rfl,_⟩:=hr;refine⟨gb,ob,xs[i],rfl,?_⟩;have:ob+i*Ty.u8.width+0=ob+i:=by show ob+i*1+0=ob+i;omega
   rw[this] at hu;simp[World.cell?,hbk,hu]
 ·rintro e w' ⟨h,q,rfl,h0,h1,rfl⟩;refine⟨w.heap.size,h,133,rfl,⟨rfl,rfl,⟨rfl,DrLe.add _ _⟩,?_⟩,λb hb=>?_,aa _,?_,h0,h1⟩
  ·simp[World.alloc,World.drewN]
  ·simp[World.alloc,World.drewN,Array.getElem?_push,Nat.ne_of_lt hb]
  ·simp[World.alloc,World.drewN]
theorem k34_141:UB Tryz.prog 34 :=
 AhZ
def AnP:=AnS.N k34_141
def AlZ:=AnP.X XZ<|AgW
def AhE {a n:Int} (h1:0<=a) (h3:0<n):0<=a.tmod n/\(a.tmod n<n\/a.tmod n=0):=⟨Int.tmod_nonneg n h1,.inl (Int.tmod_lt_of_pos a h3)⟩
def AiN {a b c:Int} (ha:0<=a/\a<=255) (hb:0<=b/\b<=255) (hc:0<=c/\c<=255):IntKind.i64.wrap (IntKind.i64.wrap (IntKind.i64.wrap (a*65536)+IntKind.i64.wrap (b*256))+c)=a*65536+b*256+c:=by
 rw[FS (n:=a*65536) o_ o_,FS (n:=b*256) o_ o_,FS (n:=a*65536+b*256) o_ o_,FS o_ o_]
abbrev BX:Xct:=⟨[.u,.v (.el .int)],[.el .int],λ(x:bz)=>True,λ(x:bz) (y:B_)=>0<=y.1/\(y.1<x.2.1\/y.1=0)⟩
def AlE:=AlZ.X BX<|Xct.o (KP [0,1,4,5,6,7] [9,11]) AlZ.2 func110 (by
 rintro⟨(c:PUnit),(n:Int),_⟩ hp;refine ho (.br (decide (n<=0)) (.lx BX ((0:Int),())) (.br (decide (n<=256)) (.dr XZ ((),()) λ(y3:B_)=>.ob (n≠(0:Int))<|.lx BX (y3.1.tmod n,())) (.dr XZ ((),()) λ(y5:B_)=>.dr XZ ((),()) λ(y6:B_)=>.dr XZ ((),()) λ(y7:B_)=>.ob (n≠(0:Int))<|.lx BX ((wr (wr (wr (y5.1*(65536:Int))+wr (y6.1*(256:Int)))+y7.1)).tmod n,())))) ?_;refine Aa (λh1=>lxY ?_) λh1=>Aa (λh2=>CI trivial λ(y3:B_) i3=>Ab ?_ λ_=>lxY ?_) λh2=>CI trivial λ(y5:B_) i5=>CI trivial λ(y6:B_) i6=>CI trivial λ(y7:B_) i7=>Ab ?_ λ_=>lxY ?_;all_goals try simp only[std,Nat.reduceAdd] at *
 ·simp
 ·omega
 ·exact AhE o_ o_
 ·omega
 ·rw[AiN i5 i6 i7];exact AhE o_ o_)
abbrev Kf:Xct:=⟨[.u,.v (.el .int)],[.el .bool],λ(x:bz)=>True,λ(x:bz) (y:am)=>True⟩
def Am3:=AlE.X Kf<|Xct.o [0,1,4] AlE.2 func89 (by
 rintro⟨(c:PUnit),(n:Int),_⟩ hp;refine ho (.dr BX ((),n,()) λ(y1:B_)=>.lx Kf (y1.1==0,())) ?_;refine CI trivial λ(y1:B_) i1=>lxY ?_<;>(try simp only[std,Nat.reduceAdd] at *))
def AH {α:Type} [Inhabited α] {l:List α} {i:Nat} (h:i<l.length):l.getD i default∈l:=by
 simp_all
abbrev RZ:Xct:=⟨[.u,.v (.sl .int)],[.el .int],λ(x:Unit×(List Int)×Unit)=>0<x.2.1.length/\x.2.1.length<=256,λ(x:Unit×(List Int)×Unit) (y:B_)=>y.1∈x.2.1⟩
def Alx:=Am3.X RZ<|Xct.o [0,1,4] Am3.2 func36 (by
 rintro⟨(c:PUnit),(l:List Int),_⟩ hp;refine ho (.dr BX ((),(↑(List.length l):Int),()) λ(y1:B_)=>.ob (0<=y1.1/\y1.1<(↑(List.length l):Int))<|.lx RZ (List.getD l y1.1.toNat default,())) ?_;refine CI trivial λ(y1:B_) i1=>Ab ?_ λ_=>lxY ?_<;>(try simp only[std,Nat.reduceAdd] at *)<;>(first|trivial|omega|skip)<;>(refine AH ?_;omega))
abbrev H8:Xct:=⟨[.u,.v (.sl .str)],[.el .str],λ(x:eE)=>0<x.2.1.length/\x.2.1.length<=256/\x.2.1.all (λs=>decide (s.size<=30))=true,λ(x:eE) (y:K_)=>y.1.size<=30/\(x.2.1.all (λs=>decide (s.size<=9))=true->y.1.size<=9)⟩
def AjM:=Alx.X H8<|Xct.o [0,1,4] Alx.2 func182 (by
 rintro⟨(c:PUnit),(l:List ByteArray),_⟩ hp;refine ho (.dr BX ((),(↑(List.length l):Int),()) λ(y1:B_)=>.ob (0<=y1.1/\y1.1<(↑(List.length l):Int))<|.lx H8 (List.getD l y1.1.toNat default,())) ?_;refine CI trivial λ(y1:B_) i1=>Ab ?_ λ_=>lxY ?_<;>(try simp only[std,Nat.reduceAdd] at *)<;>(first|trivial|omega|skip)
 have hm:=AH (i:=y1.fst.toNat) (l:=l) o_;exact⟨by simpa using bM.1 hp.2.2 _ hm,λq=>by simpa using bM.1 q _ hm⟩)
abbrev Air:Fct:=⟨[.v (.sl .u8)],[.el .bool],λ(x:W_)=>True,λ(x:W_)=>(decide (1048576<x.1.length),())⟩
def AmP:=AjM.a Air<|Fct.o [0,2] AjM.2 func5 (by
 rintro⟨(l:List Int),_⟩ hp;exact hg (.lf Air (decide ((↑(List.length l):Int)>1048576),())) (an_ @sameSize.eq_1<|@aQ))
abbrev U2:Xct:=⟨[.u],[.el .str],λ(x:T_)=>True,λ(x:T_) (y:K_)=>y.1.size<=30⟩
def AmC:=AmP.X U2<|Xct.o [0,2] AmP.2 func295 (by
 rintro⟨(c:PUnit),_⟩ hp;refine ho (.dr H8 ((),[(⟨#[104,111,109,101]⟩:ByteArray),(⟨#[99,100,110]⟩:ByteArray),(⟨#[101,118,105,108]⟩:ByteArray),(⟨#[104,111,109,101]⟩:ByteArray)],()) λ(y2:K_)=>.lx U2 (y2.1,())) ?_;refine FL ?_ λo1 (y2:K_) i2=>lxY ?_<;>(first|trivial|(refine⟨?_,?_,?_⟩<;>decide)|skip)<;>(try simp only[std,Nat.reduceAdd,sameSize,aQ] at *)<;>(try simp(disch:=omega) only[FS,A_] at *)<;>(try simp(disch:=omega) only[I_,J_])<;>(first|trivial|omega|grind[FS,A_,HO,G_,F_,maxLen,sameSize,ByteArray.size_append]))
def AnC:=AmC.X U2<|Xct.o [0,2] AmC.2 func296 (by
 rintro⟨(c:PUnit),_⟩ hp;refine ho (.dr H8 ((),[(⟨#[105,110,100,101,120]⟩:ByteArray),(⟨#[97,112,112]⟩:ByteArray),(⟨#[115,116,121,108,101]⟩:ByteArray),(⟨#[108,105,98]⟩:ByteArray),(⟨#[108,111,103,111]⟩:ByteArray),(⟨#[110,101,120,116]⟩:ByteArray),(⟨#[117,116,105,108]⟩:ByteArray)],()) λ(y2:K_)=>.lx U2 (y2.1,())) ?_;refine FL ?_ λo1 (y2:K_) i2=>lxY ?_<;>(first|trivial|(refine⟨?_,?_,?_⟩<;>decide)|skip)<;>(try simp only[std,Nat.reduceAdd,sameSize,aQ] at *)<;>(try simp(disch:=omega) only[FS,A_] at *)<;>(try simp(disch:=omega) only[I_,J_])<;>(first|trivial|omega|grind[FS,A_,HO,G_,F_,maxLen,sameSize,ByteArray.size_append]))
abbrev UW:Xct:=⟨[.u],[.el .addr],λ(x:T_)=>True,λ(x:T_) (y:aK)=>y.1.host.size<=30/\y.1.path.size<=30⟩
def AlY:=AnC.X UW<|Xct.o [0,2,3] AnC.2 func190 (by
 rintro⟨(c:PUnit),_⟩ hp;refine ho (.dr U2 ((),()) λ(y1:K_)=>.dr U2 ((),()) λ(y2:K_)=>.lx UW (⟨y1.1,y2.1⟩,())) ?_;refine CI trivial λ(y1:K_) i1=>CI trivial λ(y2:K_) i2=>lxY ?_<;>(try simp only[std,Nat.reduceAdd,sameSize,aQ] at *)<;>(try simp(disch:=omega) only[FS,A_] at *)<;>(try simp(disch:=omega) only[I_,J_])<;>(first|trivial|omega|grind[FS,A_,HO,G_,F_,maxLen,sameSize,ByteArray.size_append]))
abbrev V4:Xct:=⟨[.u,.v (.el .int)],[.el .str],λ(x:bz)=>0<=x.2.1/\x.2.1<=100,λ(x:bz) (y:K_)=>y.1.size<=31*x.2.1+31⟩
abbrev Gd (c:Unit) (most:Int):LInv:=⟨[⟨.s,5,true,.el .str⟩,⟨.s,6,true,.el .int⟩],λ_ (x:ai)=>0<=x.2.1/\x.2.1<=most+1/\x.1.size+31*x.2.1<=31*most+31,λ(x:ai)=>x.2.1.toNat⟩
def AkQ:=AlY.X V4<|Xct.p (KP [0,1,4,5,6] [12,16]) (λ⟨c,most,_⟩=>lv [(3,Gd c most)]) AlY.2 func183 (by
 rintro⟨(c:PUnit),(most:Int),_⟩ hp;refine ho (let co:=Value.int IntKind.i64 most;let bQ:=(⟨#[97,100,100,32,98]⟩:ByteArray);let aM:=(⟨#[97,100,100,32,112]⟩:ByteArray);let aF:=(⟨#[59]⟩:ByteArray);let bL:=(⟨#[108,111,111,107,32,98]⟩:ByteArray);let aU:=(⟨#[115,97,121,32,104,105]⟩:ByteArray);let aC:=(⟨#[108,111,111,107,32,112]⟩:ByteArray);let aj:=(⟨#[99,111,117,110,116,32,112]⟩:ByteArray);let U_:=(⟨#[119,114,105,116,101,32,91,98,93]⟩:ByteArray);let Q_:=(⟨#[]⟩:ByteArray);let M_:=(⟨#[99,111,117,110,116,32,115,99,114,105,112,116]⟩:ByteArray);let L_:=(⟨#[119,114,105,116,101,32,91,112,93,120,91,47,112,93]⟩:ByteArray);let H_:=(⟨#[119,114,105,116,101,32,91,105,109,103,32,115,114,99,61,108,111,103,111,93]⟩:ByteArray);let E_:=(⟨#[119,114,105,116,101,32,91,108,105,110,107,32,104,114,101,102,61,115,116,121,108,101,93]⟩:ByteArray);.dr BX ((),most,()) λ(y1:B_)=>lpx (Gd c most) (Q_,(wr ((1:Int)+y1.1),())) λ(y2:ai) bk2=>.br (decide (y2.2.1>0)) (.br (!y2.1.toList==Q_.toList) (.ob (sameSize y2.1 aF)<|.dr H8 ((),[aU,aj,M_,aC,bL,bQ,aM,L_,H_,E_,U_],()) λ(y7:K_)=>.ob (sameSize (y2.1++aF) y7.1)<|.re co<|.re (Value.string Q_)<|.bk (bk2 (y2.1++aF++y7.1,(wr (y2.2.1-(1:Int)),())))) (.dr H8 ((),[aU,aj,M_,aC,bL,bQ,aM,L_,H_,E_,U_],()) λ(y11:K_)=>.ob (sameSize y2.1 y11.1)<|.re co<|.re (Value.string Q_)<|.bk (bk2 (y2.1++y11.1,(wr (y2.2.1-(1:Int)),()))))) (.lx V4 (y2.1,()))) ?_;refine CI trivial λ(y1:B_) i1=>Am ?_ λ(y2:ai) i2=>Aa (λh3=>Aa (λh4=>Ab ?_ λ_=>FL ?_ λo6 (y7:K_) i7=>Ab ?_ λ_=>Ai<|Ai<|AR ?_) λh4=>FL ?_ λo10 (y11:K_) i11=>Ab ?_ λ_=>Ai<|Ai<|AR ?_) (λh3=>lxY ?_)<;>(first|trivial|(refine⟨?_,?_,?_⟩<;>decide)|skip)<;>(try simp only[std,Nat.reduceAdd,sameSize,aQ] at *)<;>(try simp(disch:=omega) only[FS,A_] at *)<;>(try simp(disch:=omega) only[I_,J_])<;>(first|trivial|omega|grind[FS,A_,HO,G_,F_,maxLen,sameSize,ByteArray.size_append]))
abbrev Zj:Xct:=⟨[.u],[.el .str],λ(x:T_)=>True,λ(x:T_) (y:K_)=>y.1.size<=250⟩
abbrev Gm (c:Unit):LInv:=⟨[⟨.s,3,true,.el .str⟩,⟨.s,4,true,.el .int⟩],λ_ (x:ai)=>0<=x.2.1/\x.2.1<=3/\x.1.size+70*x.2.1<=250,λ(x:ai)=>x.2.1.toNat⟩
def AnE:=AkQ.X Zj<|Xct.p (KP [0,2,3,4] [8]) (λ⟨c,_⟩=>lv [(3,Gm c)]) AkQ.2 func405 (by
 rintro⟨(c:PUnit),_⟩ hp;refine ho (.dr BX ((),(4:Int),()) λ(y1:B_)=>lpx (Gm c) ((⟨#[]⟩:ByteArray),(y1.1,())) λ(y2:ai) bk2=>.br (decide (y2.2.1>0)) (.dr H8 ((),[(⟨#[112]⟩:ByteArray),(⟨#[98]⟩:ByteArray),(⟨#[112,97,103,101]⟩:ByteArray),(⟨#[80]⟩:ByteArray),(⟨#[]⟩:ByteArray)],()) λ(y5:K_)=>.ob (sameSize y2.1 y5.1)<|.ob (sameSize (y2.1++y5.1) (⟨#[58]⟩:ByteArray))<|.dr H8 ((),[(⟨#[49]⟩:ByteArray),(⟨#[55]⟩:ByteArray),(⟨#[57,57,57]⟩:ByteArray),(⟨#[49,48,48,48]⟩:ByteArray),(⟨#[48]⟩:ByteArray),(⟨#[120]⟩:ByteArray)],()) λ(y9:K_)=>.ob (sameSize (y2.1++y5.1++(⟨#[58]⟩:ByteArray)) y9.1)<|.ob (sameSize (y2.1++y5.1++(⟨#[58]⟩:ByteArray)++y9.1) (⟨#[59]⟩:ByteArray))<|.re (Value.string (⟨#[]⟩:ByteArray))<|.bk (bk2 (y2.1++y5.1++(⟨#[58]⟩:ByteArray)++y9.1++(⟨#[59]⟩:ByteArray),(wr (y2.2.1-(1:Int)),())))) (.lx Zj (y2.1,()))) ?_;refine CI trivial λ(y1:B_) i1=>Am ?_ λ(y2:ai) i2=>Aa (λh3=>FL ?_ λo4 (y5:K_) i5=>Ab ?_ λ_=>Ab ?_ λ_=>FL ?_ λo8 (y9:K_) i9=>Ab ?_ λ_=>Ab ?_ λ_=>Ai<|AR ?_) (λh3=>lxY ?_)<;>(first|trivial|(refine⟨?_,?_,?_⟩<;>decide)|skip)<;>(try simp only[std,Nat.reduceAdd,sameSize,aQ] at *)<;>(try simp(disch:=omega) only[FS,A_] at *)<;>(try simp(disch:=omega) only[I_,J_])<;>(first|trivial|omega|grind[FS,A_,HO,G_,F_,maxLen,sameSize,ByteArray.size_append]))
abbrev Ra:Xct:=⟨[.u],[.el .str],λ(x:T_)=>True,λ(x:T_) (y:K_)=>y.1.size<=40⟩
def Ako:=AnE.X Ra<|Xct.o (KP [0,2,4] [5,11,17,28,34,40]) AnE.2 func430 (by
 rintro⟨(c:PUnit),_⟩ hp;refine ho (let bL:=(⟨#[98]⟩:ByteArray);let aU:=(⟨#[112]⟩:ByteArray);let aC:=(⟨#[97,112,112]⟩:ByteArray);let aj:=(⟨#[112,97,103,101]⟩:ByteArray);let U_:=(⟨#[47]⟩:ByteArray);let Q_:=(⟨#[115,99,114,105,112,116]⟩:ByteArray);let M_:=(⟨#[105,109,103,32,115,114,99,61]⟩:ByteArray);let L_:=(⟨#[108,105,110,107,32,104,114,101,102,61]⟩:ByteArray);let H_:=(⟨#[32,107,105,110,100,61]⟩:ByteArray);let E_:=(⟨#[115,99,114,105,112,116,32,115,114,99,61]⟩:ByteArray);.dr BX ((),(8:Int),()) λ(y1:B_)=>.br (y1.1==0) (.dr H8 ((),[aU,bL,Q_,aj],()) λ(y4:K_)=>.ob (sameSize U_ y4.1)<|.lx Ra (U_++y4.1,())) (.br (y1.1==1) (.dr H8 ((),[aC,(⟨#[99,100,110,47,108,105,98]⟩:ByteArray),(⟨#[108,105,98]⟩:ByteArray),(⟨#[101,118,105,108,47,97,112,112]⟩:ByteArray)],()) λ(y8:K_)=>.ob (sameSize E_ y8.1)<|.lx Ra (E_++y8.1,())) (.br (y1.1==2) (.dr H8 ((),[aC,(⟨#[117,116,105,108]⟩:ByteArray)],()) λ(y12:K_)=>.ob (sameSize E_ y12.1)<|.ob (sameSize (E_++y12.1) H_)<|.dr H8 ((),[(⟨#[100,101,102,101,114]⟩:ByteArray),(⟨#[109,111,100,117,108,101]⟩:ByteArray)],()) λ(y16:K_)=>.ob (sameSize (E_++y12.1++H_) y16.1)<|.lx Ra (E_++y12.1++H_++y16.1,())) (.br (y1.1==3) (.dr H8 ((),[(⟨#[108,111,103,111]⟩:ByteArray),(⟨#[99,100,110,47,108,111,103,111]⟩:ByteArray)],()) λ(y20:K_)=>.ob (sameSize M_ y20.1)<|.lx Ra (M_++y20.1,())) (.br (y1.1==4) (.dr H8 ((),[(⟨#[115,116,121,108,101]⟩:ByteArray),(⟨#[99,100,110,47,115,116,121,108,101]⟩:ByteArray)],()) λ(y24:K_)=>.ob (sameSize L_ y24.1)<|.lx Ra (L_++y24.1,())) (.br (y1.1==5) (.dr H8 ((),[(⟨#[112,32,97,61,98]⟩:ByteArray),(⟨#[]⟩:ByteArray),(⟨#[80]⟩:ByteArray),(⟨#[112,32,97]⟩:ByteArray),(⟨#[112,32,97,61]⟩:ByteArray),(⟨#[112,32,32,97,61,98]⟩:ByteArray),(⟨#[112,32,97,61,98,32,97,61,99]⟩:ByteArray),(⟨#[112,32,97,61,98,32,98,61,99,32,99,61,100,32,100,61,101,32,101,61,102]⟩:ByteArray),U_,(⟨#[112,32,97,61,98,61,99]⟩:ByteArray)],()) λ(y28:K_)=>.lx Ra (y28.1,())) (.dr H8 ((),[aU,bL,aj,Q_],()) λ(y30:K_)=>.lx Ra (y30.1,())))))))) ?_;refine CI trivial λ(y1:B_) i1=>Aa (λh2=>FL ?_ λo3 (y4:K_) i4=>Ab ?_ λ_=>lxY ?_) (λh2=>Aa (λh6=>FL ?_ λo7 (y8:K_) i8=>Ab ?_ λ_=>lxY ?_) λh6=>Aa (λh10=>FL ?_ λo11 (y12:K_) i12=>Ab ?_ λ_=>Ab ?_ λ_=>FL ?_ λo15 (y16:K_) i16=>Ab ?_ λ_=>lxY ?_) λh10=>Aa (λh18=>FL ?_ λo19 (y20:K_) i20=>Ab ?_ λ_=>lxY ?_) λh18=>Aa (λh22=>FL ?_ λo23 (y24:K_) i24=>Ab ?_ λ_=>lxY ?_) λh22=>Aa (λh26=>FL ?_ λo27 (y28:K_) i28=>lxY ?_) λh26=>FL ?_ λo29 (y30:K_) i30=>lxY ?_)<;>(first|trivial|(refine⟨?_,?_,?_⟩<;>decide)|skip)<;>(try have r8:=i8.2 (by decide))<;>(try have r12:=i12.2 (by decide))<;>(try have r16:=i16.2 (by decide))<;>(try simp only[std,Nat.reduceAdd,sameSize,aQ] at *)<;>(try simp(disch:=omega) only[FS,A_] at *)<;>(try simp(disch:=omega) only[I_,J_])<;>(first|trivial|omega|grind[FS,A_,HO,G_,F_,maxLen,sameSize,ByteArray.size_append]))
abbrev Wu:Xct:=⟨[.u,.v (.el .int)],[.el .str],λ(x:bz)=>0<=x.2.1/\x.2.1<=1000,λ(x:bz) (y:K_)=>y.1.size<=42*x.2.1+40⟩
abbrev Gg (c:Unit) (most:Int):LInv:=⟨[⟨.s,5,true,.el .str⟩,⟨.s,6,true,.el .int⟩],λ_ (x:ai)=>0<=x.2.1/\x.2.1<=most/\x.1.size+42*x.2.1<=42*most,λ(x:ai)=>x.2.1.toNat⟩
def Amt:=Ako.X Wu<|Xct.p (KP [0,1,4,5,6] [12,16,29]) (λ⟨c,most,_⟩=>lv [(3,Gg c most)]) Ako.2 func406 (by
 rintro⟨(c:PUnit),(most:Int),_⟩ hp;refine ho (let M_:=(⟨#[62]⟩:ByteArray);let L_:=Value.int IntKind.i64 most;let H_:=(⟨#[]⟩:ByteArray);let E_:=(⟨#[60]⟩:ByteArray);.dr BX ((),w1 most,()) λ(y1:B_)=>lpx (Gg c most) (H_,(y1.1,())) λ(y2:ai) bk2=>.br (decide (y2.2.1>0)) (.dr Kf ((),(3:Int),()) λ(y4:am)=>.br (y4.1) (.dr H8 ((),[(⟨#[104,105]⟩:ByteArray),(⟨#[97,32,98]⟩:ByteArray),(⟨#[99,111,117,110,116]⟩:ByteArray),(⟨#[120,62,121]⟩:ByteArray),H_],()) λ(y7:K_)=>.ob (sameSize y2.1 y7.1)<|.re L_<|.re (Value.string H_)<|.bk (bk2 (y2.1++y7.1,(wr (y2.2.1-(1:Int)),())))) (.ob (sameSize y2.1 E_)<|.dr Ra ((),()) λ(y11:K_)=>.ob (sameSize (y2.1++E_) y11.1)<|.ob (sameSize (y2.1++E_++y11.1) M_)<|.re L_<|.re (Value.string H_)<|.bk (bk2 (y2.1++E_++y11.1++M_,(wr (y2.2.1-(1:Int)),()))))) (.dr Kf ((),(6:Int),()) λ(y15:am)=>.br (y15.1) (.dr H8 ((),[(⟨#[60,112]⟩:ByteArray),E_,(⟨#[101,110,100]⟩:ByteArray)],()) λ(y18:K_)=>.ob (sameSize y2.1 y18.1)<|.lx Wu (y2.1++y18.1,())) (.lx Wu (y2.1,())))) ?_;refine CI trivial λ(y1:B_) i1=>Am ?_ λ(y2:ai) i2=>Aa (λh3=>CI trivial λ(y4:am) i4=>Aa (λh5=>FL ?_ λo6 (y7:K_) i7=>Ab ?_ λ_=>Ai<|Ai<|AR ?_) λh5=>Ab ?_ λ_=>CI trivial λ(y11:K_) i11=>Ab ?_ λ_=>Ab ?_ λ_=>Ai<|Ai<|AR ?_) (λh3=>CI trivial λ(y15:am) i15=>Aa (λh16=>FL ?_ λo17 (y18:K_) i18=>Ab ?_ λ_=>lxY ?_) λh16=>lxY ?_)<;>(first|trivial|(refine⟨?_,?_,?_⟩<;>decide)|skip)<;>(try simp only[std,Nat.reduceAdd,sameSize,aQ] at *)<;>(try simp(disch:=omega) only[FS,A_] at *)<;>(try simp(disch:=omega) only[I_,J_])<;>(first|trivial|omega|grind[FS,A_,HO,G_,F_,maxLen,sameSize,ByteArray.size_append]))
abbrev Jq:Xct:=⟨[.u,.v (.el .int)],[.el .str],λ(x:bz)=>True,λ(x:bz) (y:K_)=>y.1.size<=400⟩
def Ajv:=Amt.X Jq<|Xct.o (KP [0,1,4,5] [6,10,14,23]) Amt.2 func363 (by
 rintro⟨(c:PUnit),(k:Int),_⟩ hp;refine ho (.br (k==2) (.dr V4 ((),(3:Int),()) λ(y3:K_)=>.lx Jq (y3.1,())) (.br (k==3) (.dr Zj ((),()) λ(y5:K_)=>.lx Jq (y5.1,())) (.br (k==5) (.dr H8 ((),[(⟨#[]⟩:ByteArray),(⟨#[105,109,112,111,114,116,32,117,116,105,108,59]⟩:ByteArray),(⟨#[105,109,112,111,114,116,32,108,105,98,59]⟩:ByteArray),(⟨#[105,109,112,111,114,116,32,99,100,110,47,108,105,98,59]⟩:ByteArray),(⟨#[105,109,112,111,114,116,32,97,112,112,59,105,109,112,111,114,116,32,117,116,105,108,59]⟩:ByteArray)],()) λ(y8:K_)=>.dr H8 ((),[(⟨#[115,97,121,32,109]⟩:ByteArray),(⟨#[99,111,117,110,116,32,112]⟩:ByteArray),(⟨#[97,100,100,32,98]⟩:ByteArray),(⟨#[108,111,111,107,32,112]⟩:ByteArray)],()) λ(y10:K_)=>.ob (sameSize y8.1 y10.1)<|.lx Jq (y8.1++y10.1,())) (.br (k==4) (.lx Jq ((⟨#[112,105,120,101,108,115]⟩:ByteArray),())) (.dr Wu ((),(8:Int),()) λ(y14:K_)=>.lx Jq (y14.1,())))))) ?_;refine Aa (λh1=>FL ?_ λo2 (y3:K_) i3=>lxY ?_) λh1=>Aa (λh4=>CI trivial λ(y5:K_) i5=>lxY ?_) λh4=>Aa (λh6=>FL ?_ λo7 (y8:K_) i8=>FL ?_ λo9 (y10:K_) i10=>Ab ?_ λ_=>lxY ?_) λh6=>Aa (λh12=>lxY ?_) λh12=>FL ?_ λo13 (y14:K_) i14=>lxY ?_;all_goals first|trivial|(refine⟨?_,?_,?_⟩<;>decide)|skip
 all_goals (try simp only[std,Nat.reduceAdd,sameSize,aQ] at *)<;>(try simp(disch:=omega) only[FS,A_] at *)<;>(try simp(disch:=omega) only[I_,J_])<;>(first|trivial|omega|grind[FS,A_,HO,G_,F_,maxLen,sameSize,ByteArray.size_append]))
def Bx {s:ByteArray} (h:isName s=true):s.size<=8:=by
 simp only[isName,Z_,aH] at h;omega
def words9:ByteArray->List ByteArray->ByteArray
 | w,[]=>w
 | w,x::l=>words9 (w++⟨#[32]⟩++x) l
theorem dD {w:ByteArray} {l:List ByteArray} {i:Nat} (h:i<l.length):words9 w (l.drop i)=words9 (w++⟨#[32]⟩++l.getD i default) (l.drop (i+1)):=by rw[HO h];rfl
theorem di {w:ByteArray} {l:List ByteArray} {i:Nat} (h:l.length<=i):words9 w (l.drop i)=w:=by rw[bR h];rfl
def IB:∀ (l:List ByteArray) (w:ByteArray),l.all isName=true->(words9 w l).size<=w.size+9*l.length:=by
 intro l
 induction l with
 | nil=>intro w _;simp[words9]
 | cons x l ih=>
  intro w h;simp only[List.all_cons,Z_] at h;have h1:=Bx h.1;have h2:=ih (w++⟨#[32]⟩++x) h.2;simp only[words9,aw];rw[aQ,aQ,show ByteArray.size ⟨#[32]⟩=1 from rfl] at h2;omega
abbrev O5:Fct:=⟨[.v (.el .str),.v (.sl .str)],[.el .str],λ(x:fU)=>x.1.size<=100/\x.2.1.length<=4/\x.2.1.all isName=true,λ(x:fU)=>(words9 x.1 x.2.1,())⟩
abbrev FB (w:ByteArray) (l:(List ByteArray)):LInv:=⟨[⟨.s,0,true,.el .str⟩,⟨.s,5,true,.el .int⟩],λ_ (x:ai)=>0<=x.2.1/\x.2.1<=l.length/\x.1.size<=100+9*x.2.1/\words9 x.1 (l.drop x.2.1.toNat)=words9 w l,λ(x:ai)=>l.length-x.2.1.toNat⟩
def Ajr:=Ajv.a O5<|Fct.p (KP [0,1,4,5] [9]) (λ⟨w,l,_⟩=>lv [(2,FB w l)]) Ajv.2 func292 (by
 rintro⟨(w:ByteArray),(l:List ByteArray),_⟩ hp;refine ho (lpx (FB w l) (w,((0:Int),())) λ(y1:ai) bk1=>.br (decide (y1.2.1<(l.length:Int))) (.ob (sameSize y1.1 (⟨#[32]⟩:ByteArray))<|.ob (inB y1.2.1 l.length)<|.ob (sameSize (y1.1++(⟨#[32]⟩:ByteArray)) (l.getD y1.2.1.toNat default))<|.re (l)<|.re (Value.string (⟨#[]⟩:ByteArray))<|.bk (bk1 (y1.1++(⟨#[32]⟩:ByteArray)++l.getD y1.2.1.toNat default,(w1 y1.2.1,())))) (.lf O5 (y1.1,()))) ?_;refine Am ?_ λ(y1:ai) i1=>Aa (λh2=>Ab ?_ λ_=>Ab ?_ λ_=>Ab ?_ λ_=>Ai<|Ai<|AR ?_) (λh2=>lfY ?_)<;>have hg:∀ i,i<l.length->(l.getD i default).size<=8:=λi h=>Bx (bM.1 hp.2.2 _ (AH h))<;>(try simp only[std,Nat.reduceAdd,dD,di,sameSize,aQ] at *)<;>(try simp(disch:=omega) only[FS,A_] at *)<;>(try simp(disch:=omega) only[I_,J_])<;>(first|trivial|omega|grind[FS,A_,F_,maxLen,dD,di,sameSize,ByteArray.size_append]))
def formatPolicy (p:aN):ByteArray:=if isPolicy p&&p.set_ then(if p.nonce=⟨#[]⟩ then words9 ⟨#[115,99,114,105,112,116]⟩ p.bp++⟨#[59]⟩++words9 ⟨#[115,116,121,108,101]⟩ p.styles++⟨#[59]⟩++words9 ⟨#[105,109,103]⟩ p.images else words9 ⟨#[115,99,114,105,112,116]⟩ p.bp++⟨#[59]⟩++words9 ⟨#[115,116,121,108,101]⟩ p.styles++⟨#[59]⟩++words9 ⟨#[105,109,103]⟩ p.images++⟨#[59,110,111,110,99,101,32]⟩++p.nonce) else⟨#[]⟩
def FK {p:aN} (h:isPolicy p=true) (hs:p.set_=true):p.bp.all isName=true/\p.bp.length<=4/\p.styles.all isName=true/\p.styles.length<=4/\p.images.all isName=true/\p.images.length<=4/\p.nonce.size<=20:=by
 simp only[isPolicy,hs,aS,Z_,eD,aH] at h;obtain⟨⟨⟨⟨a1,a2⟩,a3,a4⟩,a5,a6⟩,a7⟩:=h;refine⟨a1,a2,a3,a4,a5,a6,?_⟩;rcases a7 with h|h
 ·rw[h];exact Nat.zero_le _
 ·simp only[isValue,Z_,aH] at h;omega
def FQ {l:List ByteArray} {w:ByteArray} (h:l.all isName=true) (hl:l.length<=4) (hw:w.size<=6):(words9 w l).size<=42:=by
 have:=IB l w h;omega
def Gq (p:aN):(formatPolicy p).size<=200:=by
 unfold formatPolicy;split
 ·rename_i h;simp only[Z_] at h;obtain⟨a1,a2,a3,a4,a5,a6,a7⟩:=FK h.1 h.2;have b1:=FQ (w:=⟨#[115,99,114,105,112,116]⟩) a1 a2 (by decide);have b2:=FQ (w:=⟨#[115,116,121,108,101]⟩) a3 a4 (by decide);have b3:=FQ (w:=⟨#[105,109,103]⟩) a5 a6 (by decide);split
  ·simp only[aQ,show ByteArray.size ⟨#[59]⟩=1 from rfl];omega
  ·simp only[aQ,show ByteArray.size ⟨#[59]⟩=1 from rfl,show ByteArray.size ⟨#[59,110,111,110,99,101,32]⟩=7 from rfl];omega
 ·exact Nat.zero_le _
abbrev AN:Fct:=⟨[.v (.el .bj)],[.el .str],λ(x:bO)=>AQ x.1<=1099511627776,λ(x:bO)=>(formatPolicy x.1,())⟩
def AjS:=Ajr.a AN<|Fct.o (KP [1,2,3] [11,27]) Ajr.2 func187 (by
 rintro⟨(p:aN),_⟩ hp;refine ho (let M_:=(⟨#[]⟩:ByteArray);let L_:Out:=.lf AN (M_,());let H_:=(⟨#[59,110,111,110,99,101,32]⟩:ByteArray);let E_:=(⟨#[59]⟩:ByteArray);.cl Cp (p,()) λz2=>.br (!z2.1) L_ (.br (!p.set_) L_ (.cl O5 ((⟨#[115,99,114,105,112,116]⟩:ByteArray),p.bp,()) λz3=>.ob (sameSize z3.1 E_)<|.cl O5 ((⟨#[115,116,121,108,101]⟩:ByteArray),p.styles,()) λz4=>.ob (sameSize (z3.1++E_) z4.1)<|.ob (sameSize (z3.1++E_++z4.1) E_)<|.cl O5 ((⟨#[105,109,103]⟩:ByteArray),p.images,()) λz5=>.ob (sameSize (z3.1++E_++z4.1++E_) z5.1)<|.br (!p.nonce.toList==M_.toList) (.ob (sameSize (z3.1++E_++z4.1++E_++z5.1) H_)<|.ob (sameSize (z3.1++E_++z4.1++E_++z5.1++H_) p.nonce)<|.lf AN (z3.1++E_++z4.1++E_++z5.1++H_++p.nonce,())) (.lf AN (z3.1++E_++z4.1++E_++z5.1,()))))) ?_;repeat' (guard_target =~ Out.holds _ _;first|refine lfY ?_|refine Aa (λ_=>?_) λ_=>?_|refine Ae ?_ λ_=>?_|refine Ab ?_ λ_=>?_)
 all_goals (try simp only[std,Nat.reduceAdd] at *)<;>(first|trivial|omega|skip)<;>(try have hA:isPolicy p=true:=‹_›;have hB:p.set_=true:=‹_›;obtain⟨a1,a2,a3,a4,a5,a6,a7⟩:=FK hA hB)<;>(try have b1:=FQ (w:=⟨#[115,99,114,105,112,116]⟩) a1 a2 (by decide))<;>(try have b2:=FQ (w:=⟨#[115,116,121,108,101]⟩) a3 a4 (by decide))<;>(try have b3:=FQ (w:=⟨#[105,109,103]⟩) a5 a6 (by decide))<;>(try simp only[std,Nat.reduceAdd,formatPolicy,sameSize,aQ] at *)<;>(try simp(disch:=omega) only[FS,A_] at *)<;>(try simp(disch:=omega) only[I_,J_])<;>(first|trivial|omega|grind[FS,A_,HO,G_,F_,maxLen,formatPolicy,sameSize,ByteArray.size_append]))
def hosts9:List ByteArray:=[⟨#[104,111,109,101]⟩,⟨#[99,100,110]⟩,⟨#[101,118,105,108]⟩]
def UO {i:Nat} (h:i<3):isName (hosts9.getD i default)=true:=by
 match i,h with
 | 0,_=>decide
 | 1,_=>decide
 | 2,_=>decide
abbrev OQ:Xct:=⟨[.u],[.sl .str],λ(x:T_)=>True,λ(x:T_) (y:bP)=>y.1.length<=3/\y.1.all isName=true⟩
abbrev Ft (c:Unit):LInv:=⟨[⟨.s,3,true,.sl .str⟩,⟨.s,9,true,.el .int⟩,⟨.s,7,true,.sl .str⟩],λ_ (x:eP)=>0<=x.2.1/\x.2.1<=3/\x.1.length<=x.2.1/\x.1.all isName=true/\x.2.2.1=hosts9,λ(x:eP)=>3-x.2.1.toNat⟩
def Ak7:=AjS.X OQ<|Xct.p (KP [0,2,3,5,7,8,9] [10,14]) (λ⟨c,_⟩=>lv [(3,Ft c)]) AjS.2 func293 (by
 rintro⟨(c:PUnit),_⟩ hp;refine ho (lpx (Ft c) ([],((0:Int),([(⟨#[104,111,109,101]⟩:ByteArray),(⟨#[99,100,110]⟩:ByteArray),(⟨#[101,118,105,108]⟩:ByteArray)],()))) λ(y1:eP) bk1=>.br (decide (y1.2.1<3)) (.ix y1.2.1 y1.2.2.1.length<|.dr Kf ((),(2:Int),()) λ(y5:am)=>.br (y5.1) (.ap (y1.1.length+[y1.2.2.1.getD y1.2.1.toNat default].length) 16<|.re (Value.int IntKind.i64 (3:Int))<|.bk (bk1 (y1.1++[y1.2.2.1.getD y1.2.1.toNat default],(w1 y1.2.1,(y1.2.2.1,()))))) (.re (Value.int IntKind.i64 (3:Int))<|.bk (bk1 (y1.1,(w1 y1.2.1,(y1.2.2.1,())))))) (.lx OQ (y1.1,()))) ?_;refine Am ?_ λ(y1:eP) i1=>Aa (λh2=>Ei ?_ λo3 o4=>CI trivial λ(y5:am) i5=>Aa (λh6=>Ed ?_ λ_=>Ai<|AR ?_) λh6=>Ai<|AR ?_) (λh2=>lxY ?_)<;>(have h9:hosts9.length=3:=rfl;have hn:∀ i,i<3->isName (hosts9.getD i default)=true:=λi h=>UO h)<;>(try exact⟨o_,o_,by simp,rfl,rfl⟩)<;>(try obtain⟨a1,a2,a3,a4,a5⟩:=i1;simp only[a5] at *)<;>(try simp only[std,Nat.reduceAdd] at *)<;>(try simp(disch:=omega) only[FS,A_] at *)<;>(try simp(disch:=omega) only[I_,J_])<;>(first|trivial|omega|grind[FS,A_,HO,G_,F_,maxLen]))
abbrev II:Xct:=⟨[.u],[.el .bj],λ(x:T_)=>True,λ(x:T_) (y:bO)=>isPolicy y.1=true⟩
def Akn:=Ak7.X II<|Xct.o (KP [0,2,3] [5,15]) Ak7.2 func188 (by
 rintro⟨(c:PUnit),_⟩ hp;refine ho (.dr Kf ((),(2:Int),()) λ(y1:am)=>.br (y1.1) (.leaf (.one true [vb (false),.nl,.nl,.nl,vs ((⟨#[]⟩:ByteArray))]) [] []) (.dr OQ ((),()) λ(y3:bP)=>.dr OQ ((),()) λ(y4:bP)=>.dr OQ ((),()) λ(y5:bP)=>.dr Kf ((),(2:Int),()) λ(y6:am)=>.br (y6.1) (.lx II (⟨true,y3.1,y4.1,y5.1,(⟨#[110,55]⟩:ByteArray)⟩,())) (.lx II (⟨true,y3.1,y4.1,y5.1,(⟨#[]⟩:ByteArray)⟩,())))) ?_;refine CI trivial λ(y1:am) i1=>Aa (λh2=>Xct.leafZ (S:=II) (default,()) (by repeat' first|exact rfl|exact trivial|refine And.intro ?_ ?_) ?_) (λh2=>CI trivial λ(y3:bP) i3=>CI trivial λ(y4:bP) i4=>CI trivial λ(y5:bP) i5=>CI trivial λ(y6:am) i6=>Aa (λh7=>lxY ?_) λh7=>lxY ?_)<;>(try simp only[std,Nat.reduceAdd] at *)<;>(first|rfl|(simp only[isPolicy,Z_,aS,aH,eD];first|exact⟨⟨⟨⟨i3.2,o_⟩,i4.2,o_⟩,i5.2,o_⟩,.inl trivial⟩|exact⟨⟨⟨⟨i3.2,o_⟩,i4.2,o_⟩,i5.2,o_⟩,.inl rfl⟩|exact⟨⟨⟨⟨i3.2,o_⟩,i4.2,o_⟩,i5.2,o_⟩,.inr (by decide)⟩)))
def Ae5 {α:Type} {f:α->Nat} {B:Nat}:∀ {l:List α},(∀ x∈l,f x<=B)->szL f l<=(B+1)*l.length:=by
 intro l
 induction l with
 | nil=>intro _;simp[szL]
 | cons x l ih=>
  intro h;have h1:=ih λy hy=>h y (cJ _ hy)
  have h2:=h x cZ;have h3:szL f (x::l)=f x+1+szL f l:=by simp only[szL,bZ,List.sum_cons,aw];omega
  rw[h3,aw,Nat.mul_add];omega
def QO {l:List ByteArray} (h:l.all isName=true):szL Af l<=9*l.length:=Ae5 (B:=8) λx hx=>Bx (bM.1 h x hx)
def KY {p:aN} (h:isPolicy p=true):AQ p<=128:=by
 cases hs:p.set_ with
 | true=>
  obtain⟨a1,a2,a3,a4,a5,a6,a7⟩:=FK h hs;have b1:=QO a1;have b2:=QO a3;have b3:=QO a5;simp only[AQ];omega
 | false=>
  simp only[isPolicy,hs,cX,bC,aH] at h;obtain⟨h1,h2,h3,h4⟩:=h;rw[List.length_eq_zero_iff] at h1 h2 h3;simp only[AQ,h1,h2,h3,h4];decide
abbrev IG:Xct:=⟨[.u,.v (.el .int)],[.el .bd],λ(x:bz)=>True,λ(x:bz) (y:aP)=>y.1.body.size<=400/\y.1.bj.size<=200⟩
def Amq:=Akn.X IG<|Xct.o (KP [0,1,4,5] [17]) Akn.2 func290 (by
 rintro⟨(c:PUnit),(k:Int),_⟩ hp;refine ho (.dr Jq ((),k,()) λ(y1:K_)=>.dr RZ ((),[(0:Int),(5:Int),(50:Int)],()) λ(y3:B_)=>.dr Kf ((),(2:Int),()) λ(y4:am)=>.br (k==1) (.dr II ((),()) λ(y6:bO)=>.cl AN (y6.1,()) λz2=>.lx IG (⟨(200:Int),k,y1.1,y3.1,y4.1,z2.1⟩,())) (.lx IG (⟨(200:Int),k,y1.1,y3.1,y4.1,(⟨#[]⟩:ByteArray)⟩,()))) ?_;refine CI trivial λ(y1:K_) i1=>FL ?_ λo2 (y3:B_) i3=>CI trivial λ(y4:am) i4=>Aa (λh5=>CI trivial λ(y6:bO) i6=>Do ?_ λo7 z2 ez2=>lxY ?_) (λh5=>lxY ?_)<;>(try subst_vars)<;>(try have q:=KY i6)<;>(try have q2:=Gq y6.1)<;>(try simp only[std,Nat.reduceAdd] at *)<;>(first|omega|decide|exact⟨i1,q2⟩|exact⟨i1,by decide⟩))
abbrev LP:Xct:=⟨[.u],[.el .bd],λ(x:T_)=>True,λ(x:T_) (y:aP)=>y.1.body.size<=2000/\y.1.bj.size<=200⟩
abbrev FY (c:Unit):LInv:=⟨[⟨.b,3,true,.el .bd⟩,⟨.b,2,true,.el .bd⟩],λ(z x:eQ)=>(x.1.body.size<=2000/\x.1.bj.size<=200)/\x.2.1=z.2.1,λ(x:eQ)=>400-x.1.body.size⟩
def Alk:=Amq.X LP<|Xct.p (KP [0,2,3,10] [11,17,23,29,35,40]) (λ⟨c,_⟩=>lv [(12,FY c)]) Amq.2 func368 (by
 rintro⟨(c:PUnit),_⟩ hp;refine ho (let E_:=(⟨#[48,49,50,51,52,53,54,55,56,57]⟩:ByteArray);.dr BX ((),(5:Int),()) λ(y1:B_)=>.dr IG ((),wr ((1:Int)+y1.1),()) λ(y2:aP)=>.dr BX ((),(12:Int),()) λ(y3:B_)=>.br (y3.1==0) (.dr RZ ((),[(99:Int),(100:Int),(404:Int),(599:Int),(600:Int)],()) λ(y6:B_)=>.lx LP ({y2.1 with status:=y6.1},())) (.br (y3.1==1) (.dr RZ ((),[(0:Int),(6:Int)],()) λ(y9:B_)=>.lx LP ({y2.1 with kind:=y9.1},())) (.br (y3.1==2) (.dr RZ ((),[(-1:Int),(1000:Int),(1001:Int)],()) λ(y12:B_)=>.lx LP ({y2.1 with age:=y12.1},())) (.br (y3.1==3) (.dr H8 ((),[(⟨#[120]⟩:ByteArray),(⟨#[115,99,114,105,112,116,59,115,116,121,108,101,59,105,109,103]⟩:ByteArray)],()) λ(y15:K_)=>.lx LP ({y2.1 with bj:=y15.1},())) (.br (y3.1==4) (lpx (FY c) (y2.1,(default,())) λ(y17:eQ) bk17=>.br (decide ((y17.1.body.size:Int)<400)) (.ob (sameSize y17.1.body E_)<|.re (Value.int IntKind.i64 y3.1)<|.bk (bk17 (({y17.1 with body:=y17.1.body++E_}:R_),(y17.2.1,())))) (.lx LP (y17.1,()))) (.lx LP (y2.1,()))))))) ?_;refine CI trivial λ(y1:B_) i1=>CI trivial λ(y2:aP) i2=>CI trivial λ(y3:B_) i3=>Aa (λh4=>FL ?_ λo5 (y6:B_) i6=>lxY ?_) (λh4=>Aa (λh7=>FL ?_ λo8 (y9:B_) i9=>lxY ?_) λh7=>Aa (λh10=>FL ?_ λo11 (y12:B_) i12=>lxY ?_) λh10=>Aa (λh13=>FL ?_ λo14 (y15:K_) i15=>lxY ?_) λh13=>Aa (λh16=>Am ?_ λ(y17:eQ) i17=>Aa (λh18=>Ab ?_ λ_=>Ai<|AR ?_) λh18=>lxY ?_) λh16=>lxY ?_)<;>(try simp only[std,Nat.reduceAdd] at *)<;>(first|omega|decide|exact i2|skip)<;>(try simp only[std,Nat.reduceAdd,sameSize,aQ] at *)<;>(try simp(disch:=omega) only[FS,A_] at *)<;>(try simp(disch:=omega) only[I_,J_])<;>(first|trivial|omega|grind[FS,A_,HO,G_,F_,maxLen,sameSize,ByteArray.size_append]))
def findGuess (l:List au) (a:D_):Int:=fidx (λg=>decide (g.to=a)) l 0
abbrev C7:Fct:=⟨[.v (.sl .guess),.v (.el .addr)],[.el .int],λ(x:eR)=>x.1.length<=4194304,λ(x:eR)=>(findGuess x.1 x.2.1,())⟩
abbrev B2 (l:(List au)) (a:D_):LInv:=⟨[⟨.s,5,true,.el .int⟩,⟨.b,3,true,.el .addr⟩],λ(z x:dq)=>(0<=x.1/\x.1<=l.length/\fidx (λg=>decide (g.to=a)) (l.drop x.1.toNat) x.1=findGuess l a)/\x.2.1=z.2.1,λ(x:dq)=>l.length-x.1.toNat⟩
def AnF:=Alk.a C7<|Fct.p (KP [0,3,4,5] [9,18]) (λ⟨l,a,_⟩=>lv [(2,B2 l a)]) Alk.2 func76 (by
 rintro⟨(l:List au),(a:D_),_⟩ hp;exact hg (.lq (Int×D_×PUnit) (B2 l a).inv (B2 l a).m ((0:Int),(a,())) λy1 bk1=>.br (decide (y1.1<(l.length:Int))) (.ob (inB y1.1 l.length)<|.br ((l.getD y1.1.toNat default).to.host==y1.2.1.host&&((l.getD y1.1.toNat default).to.path==y1.2.1.path&&true)) (.lf C7 (y1.1,())) (.re (l)<|.bk (bk1 (w1 y1.1,(y1.2.1,()))))) (.lf C7 ((-1:Int),()))) (an_ @findGuess.eq_1<|an_ @fidx.eq_1<|@fidx.eq_2))
abbrev Fm:Fct:=⟨[.v (.el .guess),.p (.el .addr)],[.el .bool],λ(x:au×D_×Unit)=>True,λ(x:au×D_×Unit)=>(decide (x.1.to=x.2.1),())⟩
def Ali:=AnF.a Fm<|Fct.o [1,2,3] AnF.2 func138 (by
 rintro⟨(g:au),(a:D_),_⟩ hp;exact hq (.lf Fm (g.to.host==a.host&&(g.to.path==a.path&&true),())))
abbrev A1:Fct:=⟨[aL .guess,.c 138 [.el .addr]],[rI],λx=>x.1.length<=1000000000000000000/\∀ c,Fm.pre (c,x.2.1),λx=>(fidx (λc=>(Fm.fn (c,x.2.1)).1) x.1 0,())⟩
abbrev Av (l:(List au)) (u:(D_×Unit)):LInv:=⟨[⟨.s,8,true,.el .int⟩],λ_ (x:B_)=>0<=x.1/\x.1<=l.length/\fidx (λc=>(Fm.fn (c,u)).1) l 0=fidx (λc=>(Fm.fn (c,u)).1) (l.drop x.1.toNat) x.1,λ(x:B_)=>l.length-x.1.toNat⟩
end Go.Proofs.YthpiiodbmkjmjaaGreatDoor.fnThrifty
